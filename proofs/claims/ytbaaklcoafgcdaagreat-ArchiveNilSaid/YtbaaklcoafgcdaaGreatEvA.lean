import Derived.Test.YtbaaklcoafgcdaaGreatEvS
set_option linter.unusedVariables false
set_option linter.unusedSimpArgs false
namespace Go.Ev
/-! ### A drawn region in any order -/
def XX (tr : List St) (ops : Array Oper) (S : Nat → Bool) (j : Nat) : Prop := S j = true ∧ ∀ k, Loud tr k → S k = true → bit (mask ops k) j = false
def Stage (tr : List St) (D : Nat → DS) (S : Nat → Bool) (G : AHp) : Prop :=
  (∃ j, Loud tr j ∧ S j = true ∧ G = (D (j + 1)).G ∧ ∀ k, Loud tr k → j < k → S k = false) ∨ ((∀ k, Loud tr k → S k = false) ∧ G = (D 0).G)
def Slots (tr : List St) (T0 : Tm) (n : Nat) (S : Nat → Bool) (E : Env) (A : Array Value) : Prop :=
  A.size = n ∧ ∀ d a, LastW tr T0 (fun j => S j = true) d a → ∃ v, A[d]? = some v ∧ gam E a = some v
structure Mid (P : Program) (E0 : Env) (H0 : AHp) (w0 : World) (N : Nat) (tr : List St) (ops : Array Oper) (S : Nat → Bool) (E : Env) (G : AHp) (w : World) : Prop where
  hr : HR P E G w
  keep : ∀ i, i < H0.nx → E.ν i = E0.ν i ∧ E.ρ i = E0.ρ i ∧ ∀ k, E.σ i k = E0.σ i k
  os : w.os = w0.os
  tape : w.tape = w0.tape
  output : w.output = w0.output
  size : w0.heap.size ≤ w.heap.size
  block : ∀ b, b < w0.heap.size → ¬ Named E0 H0 b → w.heap[b]? = w0.heap[b]?
  named : ∀ b, Named E G b → b < w0.heap.size → Named E0 H0 b
  nx : N ≤ G.nx
  ex : ∀ j id ob, IsAl tr j id ob → XX tr ops S j → ∃ b o, w0.heap.size ≤ b ∧ E.ν id = some b ∧ w.heap[b]? = some o ∧ OR P E id ob o ∧ ¬ Named E G b
  exi : ∀ j k id id' ob ob', IsAl tr j id ob → IsAl tr k id' ob' → XX tr ops S j → XX tr ops S k → id ≠ id' → E.ν id ≠ E.ν id'
  no : ∀ j id ob, IsAl tr j id ob → S j = false → E.ν id = none
section
variable {C : Cx} {run : Run} {ops : Array Oper} {n : Nat} {s0 : DS} {tr : List St} {D : Nat → DS} {S S' : Nat → Bool} {i : Nat} {P : Program} {E0 E : Env} {H0 G : AHp} {w0 w : World} {N : Nat}
theorem Tc.walk (tc : Tc C run ops n s0 tr D) (m : Nat) : ∀ k, m + k ≤ tr.length → (D (m + k)).G = (D m).G ∨ ∃ j, m ≤ j ∧ j < m + k ∧ Loud tr j ∧ (D j).G = (D m).G
  | 0, _ => .inl rfl
  | k + 1, h => by
    rcases tc.walk m k (by omega) with h1 | ⟨j, h1, h2, h3⟩
    · obtain ⟨st, hst⟩ : ∃ st, tr[m + k]? = some st := ⟨tr[m + k], List.getElem?_eq_getElem (by omega)⟩
      rcases Classical.em st.k.isLoud with hl | hl
      · exact .inr ⟨m + k, by omega, by omega, ⟨st, hst, hl⟩, h1⟩
      · left
        rw [show m + (k + 1) = m + k + 1 by omega, (tc.st _ st hst).2, nxt_G hl, h1]
    · exact .inr ⟨j, h1, by omega, h3⟩
theorem Tc.walk' (tc : Tc C run ops n s0 tr D) {m k : Nat} (hm : m ≤ k) (hk : k ≤ tr.length) : (D k).G = (D m).G ∨ ∃ j, m ≤ j ∧ j < k ∧ Loud tr j ∧ (D j).G = (D m).G := by
  have := tc.walk m (k - m) (by omega)
  rw [show m + (k - m) = k by omega] at this
  exact this
theorem Loud.lt {j : Nat} (h : Loud tr j) : j < tr.length := by
  obtain ⟨st, h1, _⟩ := h
  exact (List.getElem?_eq_some_iff.1 h1).1
/-- a loud one has the last loud one ahead of it in its mask -/
theorem Tc.last_in (tc : Tc C run ops n s0 tr D) (h0 : s0.old = []) {j k : Nat} (hj : Loud tr j) (hk : Loud tr k) (hlt : k < j) : ∃ q, Loud tr q ∧ k ≤ q ∧ q < j ∧ bit (mask ops j) q = true := by
  have hjl := hj.lt
  obtain ⟨st, h1, h2⟩ := hj
  rcases tc.old h0 j (by omega) with ⟨_, h⟩ | ⟨q, rest, h3, h4, h5, h6⟩
  · exact absurd hk (h k hlt)
  · refine ⟨q, h4, h6 k hk hlt, h5, ?_⟩
    have hl := (tc.st j st h1).1.2
    cases hkk : st.k with
    | loud H =>
      rw [hkk] at hl
      have := hl.2.2.1
      rw [h3] at this
      exact this
    | _ => rw [hkk] at h2; exact h2.elim
theorem Tc.chain (tc : Tc C run ops n s0 tr D) (h0 : s0.old = []) (hc : ClosedD ops S) : ∀ (d j : Nat), j ≤ d → Loud tr j → S j = true → ∀ k, Loud tr k → k < j → S k = true
  | 0, j, hd, hj, hS, k, hk, hlt => by omega
  | d + 1, j, hd, hj, hS, k, hk, hlt => by
    obtain ⟨q, h1, h2, h3, h4⟩ := tc.last_in h0 hj hk hlt
    have hq := mask_closed hc hS h4
    rcases Nat.lt_or_ge k q with h | h
    · exact tc.chain h0 hc d q (by omega) h1 hq k hk h
    · have : q = k := by omega
      subst this; exact hq
structure Rdy (ops : Array Oper) (S S' : Nat → Bool) (i : Nat) : Prop where
  cl : ClosedD ops S
  un : S i = false
  msk : ∀ j, bit (mask ops i) j = true → S j = true
  up : ∀ k, S' k = true ↔ S k = true ∨ k = i
theorem Rdy.not (r : Rdy ops S S' i) {j : Nat} (h : S j = true) : bit (mask ops j) i = false := by
  cases hb : bit (mask ops j) i with
  | false => rfl
  | true => have := mask_closed r.cl h hb; rw [r.un] at this; cases this
theorem Rdy.ne (r : Rdy ops S S' i) {k : Nat} (h : k ≠ i) : S' k = S k := by
  cases hs : S k with
  | true => exact (r.up k).2 (.inl hs)
  | false =>
    cases hs' : S' k with
    | false => rfl
    | true => rcases (r.up k).1 hs' with h1 | h1
              · rw [hs] at h1; cases h1
              · exact absurd h1 h
theorem Rdy.at (r : Rdy ops S S' i) : S' i = true := (r.up i).2 (.inr rfl)
/-- the loud ones ahead of a loud one that is ready have been run, the ones behind it have not -/
theorem Tc.louds (tc : Tc C run ops n s0 tr D) (h0 : s0.old = []) (r : Rdy ops S S' i) (hi : Loud tr i) {k : Nat} (hk : Loud tr k) : (k < i → S k = true) ∧ (i < k → S k = false) := by
  refine ⟨fun h => ?_, fun h => ?_⟩
  · obtain ⟨q, h1, h2, h3, h4⟩ := tc.last_in h0 hi hk h
    have hq := r.msk q h4
    rcases Nat.lt_or_ge k q with h | h
    · exact tc.chain h0 r.cl q q (Nat.le_refl _) h1 hq k hk h
    · have : q = k := by omega
      subst this; exact hq
  · cases hs : S k with
    | false => rfl
    | true =>
      have := tc.chain h0 r.cl k k (Nat.le_refl _) hk hs i hi h
      rw [r.un] at this; cases this
theorem Tc.stage_loud (tc : Tc C run ops n s0 tr D) (h0 : s0.old = []) (r : Rdy ops S S' i) (hi : Loud tr i) (hs : Stage tr D S G) : G = (D i).G := by
  have hil := hi.lt
  rcases hs with ⟨j, h1, h2, h3, h4⟩ | ⟨h1, h2⟩
  · have hji : j < i := by
      rcases Nat.lt_trichotomy j i with h | h | h
      · exact h
      · subst h; rw [r.un] at h2; cases h2
      · have := (tc.louds h0 r hi h1).2 h; rw [h2] at this; cases this
    rcases tc.walk' (m := j + 1) (k := i) hji (by omega) with h | ⟨q, k1, k2, k3, _⟩
    · rw [h3, h]
    · have a := (tc.louds h0 r hi k3).1 k2
      rw [h4 q k3 (by omega)] at a; cases a
  · rcases tc.walk' (m := 0) (k := i) (Nat.zero_le _) (by omega) with h | ⟨q, k1, k2, k3, _⟩
    · rw [h2, h]
    · have a := (tc.louds h0 r hi k3).1 k2
      rw [h1 q k3] at a; cases a
theorem Tc.stage_read (tc : Tc C run ops n s0 tr D) (r : Rdy ops S S' i) {st : St} (hst : tr[i]? = some st) (hk : st.k = .read) (hs : Stage tr D S G) : opA C (rs ops (D i) st.o) G st.o.op = .read (some st.v) := by
  have hil := (List.getElem?_eq_some_iff.1 hst).1
  have hl := (tc.st i st hst).1.2
  rw [hk] at hl
  obtain ⟨_, hl1, hl2⟩ := hl
  have early : ∀ m, m ≤ i → (∀ k, Loud tr k → m ≤ k → S k = false) → opA C (rs ops (D i) st.o) (D m).G st.o.op = .read (some st.v) := by
    intro m hm hno
    rcases tc.walk' (m := m) (k := i) hm (by omega) with h | ⟨q, k1, k2, k3, k4⟩
    · rw [← h]; exact hl1
    · rcases oldOk_mem hl2 _ (tc.old_mem i (by omega) q k2 k3) with h | h
      · have := r.msk q h; rw [hno q k3 k1] at this; cases this
      · rw [← k4]; exact readsTo_eq h
  rcases hs with ⟨j, h1, h2, h3, h4⟩ | ⟨h1, h2⟩
  · rw [h3]
    rcases Nat.lt_trichotomy j i with h | h | h
    · exact early (j + 1) h fun k hk1 hk2 => h4 k hk1 (by omega)
    · subst h; rw [r.un] at h2; cases h2
    · have hj := h1.lt
      obtain ⟨sj, hsj, hlj⟩ := h1
      have hL := (tc.st j sj hsj).1.2
      have hN := (tc.st j sj hsj).2
      cases hkk : sj.k with
      | loud H =>
        rw [hkk] at hL
        have hG : (D (j + 1)).G = H := by rw [hN]; unfold nxt; rw [hkk]; rfl
        rw [hG]
        rcases qsOk_mem hL.2.2.2.2 _ (tc.qs j (by omega) i st h hst hk) with h | h
        · rw [r.not h2] at h; cases h
        · exact readsTo_eq h
      | _ => rw [hkk] at hlj; exact hlj.elim
  · rw [h2]
    exact early 0 (Nat.zero_le _) fun k hk1 _ => h1 k hk1
/-- what an operation that is ready sees of the slots -/
theorem Tc.sees (tc : Tc C run ops n s0 tr D) (r : Rdy ops S S' i) {st : St} (hst : tr[i]? = some st) {A : Array Value} (hs : Slots tr s0.T n S E A) : TR E n (rs ops (D i) st.o) A := by
  have hil := (List.getElem?_eq_some_iff.1 hst).1
  refine ⟨hs.1, fun d a hd => hs.2 d a ?_⟩
  obtain ⟨h1, h2⟩ := only_get hd
  refine (tc.T i (by omega) d a h2).congr fun j sj hj hdj => ?_
  rcases slot_order tc.slots (tc.om i st hst) (tc.om j sj hj) hdj (show d ∈ names ops st.o by unfold names; rw [app_eq']; exact List.mem_append_right _ h1) with h | ⟨h, hb⟩ | ⟨h, hb⟩
  · subst h; simp [r.un]
  · constructor
    · intro hlt; have hlt : j < i := hlt; omega
    · intro hS; have := r.not hS; rw [hb] at this; cases this
  · exact ⟨fun _ => r.msk j hb, fun _ => h⟩
theorem Tc.wrote (tc : Tc C run ops n s0 tr D) (r : Rdy ops S S' i) {st : St} (hst : tr[i]? = some st) {d : Nat} {a : AVal} (h : LastW tr s0.T (fun j => S' j = true) d a) :
    (st.o.dst = some d ∧ a = st.v) ∨ (st.o.dst ≠ some d ∧ LastW tr s0.T (fun j => S j = true) d a) := by
  rcases Classical.em (st.o.dst = some d) with hd | hd
  · refine .inl ⟨hd, ?_⟩
    rcases h with ⟨j, sj, h1, h2, h3, h4, h5⟩ | ⟨h1, h2⟩
    · rcases Nat.lt_trichotomy j i with hlt | hlt | hlt
      · exact absurd hd (h5 i st hst hlt r.at)
      · subst hlt; rw [hst] at h1; cases h1; exact h4.symm
      · have h2 : S' j = true := h2
        rw [r.ne (by omega)] at h2
        rcases slot_order tc.slots (tc.om i st hst) (tc.om j sj h1) h3 (show d ∈ names ops st.o by unfold names; rw [app_eq']; exact List.mem_append_left _ (by rw [hd]; simp)) with h | ⟨h, hb⟩ | ⟨h, hb⟩
        · omega
        · rw [r.not h2] at hb; cases hb
        · omega
    · exact absurd hd (h1 i st hst r.at)
  · refine .inr ⟨hd, h.congr fun j sj hj hdj => ?_⟩
    have : j ≠ i := fun e => by subst e; rw [hst] at hj; cases hj; exact hd hdj
    show S' j = true ↔ S j = true
    rw [r.ne this]
theorem Tc.slots_next (tc : Tc C run ops n s0 tr D) (r : Rdy ops S S' i) {st : St} (hst : tr[i]? = some st) {A : Array Value} (hs : Slots tr s0.T n S E A) {E' : Env} (le : E.le E') {u : Value} (hu : gam E' st.v = some u) :
    Slots tr s0.T n S' E' (putV A st.o.dst u) := by
  have hlt := (tc.st i st hst).1.1
  refine ⟨?_, fun d a hl => ?_⟩
  · cases hd : st.o.dst with
    | none => exact hs.1
    | some d => show (A.setIfInBounds d u).size = n; simp [hs.1]
  · rcases tc.wrote r hst hl with ⟨h1, rfl⟩ | ⟨h1, h2⟩
    · rw [h1]
      exact ⟨u, by show (A.setIfInBounds d u)[d]? = some u; simp [hs.1, hlt d h1], hu⟩
    · obtain ⟨v, hv, hg⟩ := hs.2 d a h2
      refine ⟨v, ?_, gam_mono le a hg⟩
      cases hd : st.o.dst with
      | none => exact hv
      | some d' =>
        show (A.setIfInBounds d' u)[d]? = some v
        rw [Array.getElem?_setIfInBounds_ne (fun e => h1 (by rw [hd, e]))]
        exact hv
theorem Stage.quiet (r : Rdy ops S S' i) (hi : ¬ Loud tr i) (hs : Stage tr D S G) : Stage tr D S' G := by
  have e : ∀ k, Loud tr k → S' k = S k := fun k hk => r.ne (fun e => hi (e ▸ hk))
  rcases hs with ⟨j, h1, h2, h3, h4⟩ | ⟨h1, h2⟩
  · exact .inl ⟨j, h1, by rw [e j h1]; exact h2, h3, fun k hk hlt => by rw [e k hk]; exact h4 k hk hlt⟩
  · exact .inr ⟨fun k hk => by rw [e k hk]; exact h1 k hk, h2⟩
theorem Tc.stage_next (tc : Tc C run ops n s0 tr D) (h0 : s0.old = []) (r : Rdy ops S S' i) (hi : Loud tr i) : Stage tr D S' (D (i + 1)).G :=
  .inl ⟨i, hi, r.at, rfl, fun k hk hlt => by rw [r.ne (by omega)]; exact (tc.louds h0 r hi hk).2 hlt⟩
theorem XX.quiet (r : Rdy ops S S' i) (hi : ¬ Loud tr i) {j : Nat} (hne : j ≠ i) (h : XX tr ops S' j) : XX tr ops S j :=
  ⟨by rw [← r.ne hne]; exact h.1, fun k hk hS => h.2 k hk ((r.up k).2 (.inl hS))⟩
theorem Mid.quiet (r : Rdy ops S S' i) (hi : ¬ Loud tr i) (ha : ∀ id ob, ¬ IsAl tr i id ob) (m : Mid P E0 H0 w0 N tr ops S E G w) : Mid P E0 H0 w0 N tr ops S' E G w := by
  have ne : ∀ {j id ob}, IsAl tr j id ob → j ≠ i := fun h e => ha _ _ (e ▸ h)
  exact { m with
    ex := fun j id ob h1 h2 => m.ex j id ob h1 (h2.quiet r hi (ne h1))
    exi := fun j k id id' ob ob' h1 h2 h3 h4 => m.exi j k id id' ob ob' h1 h2 (h3.quiet r hi (ne h1)) (h4.quiet r hi (ne h2))
    no := fun j id ob h1 h2 => m.no j id ob h1 (by rw [← r.ne (ne h1)]; exact h2) }
end
end Go.Ev
