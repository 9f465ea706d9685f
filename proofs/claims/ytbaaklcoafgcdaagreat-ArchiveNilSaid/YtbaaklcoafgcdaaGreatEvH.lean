import Derived.Test.YtbaaklcoafgcdaaGreatEvJ
set_option linter.unusedVariables false
set_option linter.unusedSimpArgs false
namespace Go.Ev
/-! ### Bits -/
theorem bit_eq (m j : Nat) : bit m j = m.testBit j := by
  unfold bit
  rw [Nat.testBit_eq_decide_div_mod_eq]
  rw [beq_eq]; rfl
theorem bit_or (a b j : Nat) : bit (Nat.lor a b) j = (bit a j || bit b j) := by
  rw [bit_eq, bit_eq, bit_eq]; exact Nat.testBit_or a b j
theorem bit_pow (i j : Nat) : bit (Nat.pow 2 i) j = decide (i = j) := by
  rw [bit_eq]; exact Nat.testBit_two_pow
theorem bit_zero (j : Nat) : bit 0 j = false := by rw [bit_eq]; simp
/-- the bits of the edges: each edge's end, and what its mask has -/
theorem orEdges_bit (t : Tr Nat) : ∀ (l : List Edge) (j : Nat), bit (orEdges t l) j = true → ∃ e ∈ l, Region.binds .any e = true ∧ (j = e.on ∨ ∃ m, t.get e.on = some m ∧ bit m j = true)
  | [], j, h => by change bit 0 j = true at h; rw [bit_zero] at h; cases h
  | e :: l, j, h => by
    have hd : orEdges t (e :: l) = cnd (Region.binds .any e) (Nat.lor (orEdges t l) (Nat.lor (Nat.pow 2 e.on) (match t.get e.on with
      | some m => m
      | none => 0))) (orEdges t l) := rfl
    rw [hd] at h
    cases hb : Region.binds .any e with
    | false =>
      rw [hb] at h
      obtain ⟨e', he', h1, h2⟩ := orEdges_bit t l j h
      exact ⟨e', List.mem_cons_of_mem _ he', h1, h2⟩
    | true =>
      rw [hb] at h
      simp only [cnd, bit_or, bit_pow, Bool.or_eq_true, decide_eq_true_eq] at h
      rcases h with h | h | h
      · obtain ⟨e', he', h1, h2⟩ := orEdges_bit t l j h
        exact ⟨e', List.mem_cons_of_mem _ he', h1, h2⟩
      · exact ⟨e, List.mem_cons_self, hb, .inl h.symm⟩
      · refine ⟨e, List.mem_cons_self, hb, .inr ?_⟩
        cases hm : t.get e.on with
        | none => rw [hm] at h; rw [bit_zero] at h; cases h
        | some m => rw [hm] at h; exact ⟨m, rfl, h⟩
/-- the masks of a list of operations, laid from a place on: what a mask's bits say -/
theorem masks_get : ∀ (l : List Oper) (i : Nat) (t : Tr Nat) (j m : Nat), (masks l i t).get j = some m → t.get j = some m ∨ (i ≤ j ∧ ∃ o t', l[j - i]? = some o ∧ m = orEdges t' o.after.toList ∧ ∀ q p, t'.get q = some p → (masks l i t).get q = some p ∨ True)
  | [], i, t, j, m, h => .inl h
  | o :: l, i, t, j, m, h => by
    have e : masks (o :: l) i t = masks l (Nat.succ i) (Tr.set TD t i (orEdges t o.after.toList)) := by
      show forceNat (orEdges t o.after.toList) (fun m => masks l (Nat.succ i) (Tr.set TD t i m)) = _
      rw [forceNat_eq]
    rw [e] at h
    rcases masks_get l (i + 1) _ j m h with h1 | ⟨h1, o', t', h2, h3, _⟩
    · rcases Tr.set_some _ h1 with ⟨rfl, rfl⟩ | ⟨_, h1⟩
      · exact .inr ⟨Nat.le_refl _, o, t, by simp, rfl, fun _ _ _ => .inr trivial⟩
      · exact .inl h1
    · refine .inr ⟨by omega, o', t', ?_, h3, fun _ _ _ => .inr trivial⟩
      have : j - i = (j - (i + 1)) + 1 := by omega
      rw [this]; simpa using h2
/-- closed: with an operation stand its direct ones ahead -/
def ClosedD (ops : Array Oper) (S : Nat → Bool) : Prop := ∀ i o, ops[i]? = some o → S i = true → ∀ e ∈ o.after.toList, Region.binds .any e = true → S e.on = true
/-- the tries of masks that are met: each mask's bits are reached by direct edges -/
def MOk (ops : Array Oper) (t : Tr Nat) : Prop := ∀ i m, t.get i = some m → ∀ S, ClosedD ops S → S i = true → ∀ j, bit m j = true → S j = true
theorem masks_ok (ops : Array Oper) : ∀ (l : List Oper) (i : Nat) (t : Tr Nat), MOk ops t → (∀ k o, l[k]? = some o → ops[i + k]? = some o) → MOk ops (masks l i t)
  | [], i, t, h, _ => h
  | o :: l, i, t, h, hl => by
    have e : masks (o :: l) i t = masks l (Nat.succ i) (Tr.set TD t i (orEdges t o.after.toList)) := by
      show forceNat (orEdges t o.after.toList) (fun m => masks l (Nat.succ i) (Tr.set TD t i m)) = _
      rw [forceNat_eq]
    rw [e]
    refine masks_ok ops l (i + 1) _ ?_ (fun k o' hk => by have := hl (k + 1) o' (by simpa using hk); rw [show i + 1 + k = i + (k + 1) by omega]; exact this)
    intro a m hm S hS hSa j hj
    rcases Tr.set_some _ hm with ⟨rfl, rfl⟩ | ⟨_, hm⟩
    · obtain ⟨e', he', h1, h2⟩ := orEdges_bit t _ j hj
      have ho : ops[a]? = some o := by have := hl 0 o rfl; simpa using this
      have hon := hS a o ho hSa e' he' h1
      rcases h2 with rfl | ⟨p, hp, hb⟩
      · exact hon
      · exact h e'.on p hp S hS hon j hb
    · exact h a m hm S hS hSa j hj
/-- what stands ahead of an operation of a closed set stands in it -/
theorem mask_closed {ops : Array Oper} {S : Nat → Bool} (hS : ClosedD ops S) {i j : Nat} (hi : S i = true) (hb : bit (mask ops i) j = true) : S j = true := by
  unfold mask at hb
  split at hb
  · rename_i m hm
    exact masks_ok ops ops.toList 0 .nil (fun _ _ h => by cases h) (fun k o hk => by simpa using hk) i m hm S hS hi j hb
  · rw [bit_zero] at hb; cases hb
theorem edges_ok : ∀ (l : List Oper) (i : Nat), edgesOk l i = true → ∀ k o, l[k]? = some o → ∀ e ∈ o.after.toList, Region.binds .any e = true → e.on < i + k
  | [], i, h, k, o, hk, e, he, hb => by simp at hk
  | x :: l, i, h, k, o, hk, e, he, hb => by
    have hd : edgesOk (x :: l) i = cnd (x.after.toList.all fun e => cnd (Region.binds .any e) (Nat.ble (Nat.succ e.on) i) true) (edgesOk l (Nat.succ i)) false := rfl
    rw [hd] at h
    cases h1 : (x.after.toList.all fun e => cnd (Region.binds .any e) (Nat.ble (Nat.succ e.on) i) true) with
    | false => rw [h1] at h; cases h
    | true =>
      rw [h1] at h
      cases k with
      | zero =>
        simp at hk; subst hk
        have := List.all_eq_true.1 h1 e he
        rw [hb] at this
        exact Nat.le_of_ble_eq_true this
      | succ k =>
        have := edges_ok l (i + 1) h k o (by simpa using hk) e he hb
        omega
theorem masks_lt : ∀ (l : List Oper) (i : Nat) (t : Tr Nat), (∀ a m, t.get a = some m → ∀ j, bit m j = true → j < a) → edgesOk l i = true → ∀ a m, (masks l i t).get a = some m → ∀ j, bit m j = true → j < a
  | [], i, t, h, _, a, m, hm, j, hj => h a m hm j hj
  | o :: l, i, t, h, he, a, m, hm, j, hj => by
    have e : masks (o :: l) i t = masks l (Nat.succ i) (Tr.set TD t i (orEdges t o.after.toList)) := by
      show forceNat (orEdges t o.after.toList) (fun m => masks l (Nat.succ i) (Tr.set TD t i m)) = _
      rw [forceNat_eq]
    rw [e] at hm
    have hd : edgesOk (o :: l) i = cnd (o.after.toList.all fun e => cnd (Region.binds .any e) (Nat.ble (Nat.succ e.on) i) true) (edgesOk l (Nat.succ i)) false := rfl
    have h0 := edges_ok (o :: l) i he 0 o rfl
    rw [hd] at he
    cases h1 : (o.after.toList.all fun e => cnd (Region.binds .any e) (Nat.ble (Nat.succ e.on) i) true) with
    | false => rw [h1] at he; cases he
    | true =>
      rw [h1] at he
      refine masks_lt l (i + 1) _ ?_ he a m hm j hj
      intro b p hp q hq
      rcases Tr.set_some _ hp with ⟨rfl, rfl⟩ | ⟨_, hp⟩
      · obtain ⟨e', he', hb, h2⟩ := orEdges_bit t _ q hq
        have hlt := h0 e' he' hb
        rcases h2 with rfl | ⟨m', hm', hb'⟩
        · omega
        · have := h _ _ hm' _ hb'; omega
      · exact h b p hp q hq
/-- a mask has bits of places ahead alone -/
theorem mask_lt {ops : Array Oper} (h : edgesOk ops.toList 0 = true) {i j : Nat} (hb : bit (mask ops i) j = true) : j < i := by
  unfold mask at hb
  split at hb
  · rename_i m hm
    exact masks_lt ops.toList 0 .nil (fun _ _ h => by cases h) h i m hm j hb
  · rw [bit_zero] at hb; cases hb
end Go.Ev
