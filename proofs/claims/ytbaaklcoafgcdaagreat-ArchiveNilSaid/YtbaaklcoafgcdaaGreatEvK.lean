import Derived.Test.YtbaaklcoafgcdaaGreatEvT
set_option linter.unusedVariables false
set_option linter.unusedSimpArgs false
namespace Go.Ev
/-! ### Slots that are looked at, slots that are written -/
theorem memN_iff {t : Nat} : ∀ {l : List Nat}, memN t l = true ↔ t ∈ l
  | [] => by simp [memN]
  | a :: l => by
    have hd : memN t (a :: l) = cnd (Nat.beq a t) true (memN t l) := rfl
    rw [hd]
    cases hb : Nat.beq a t with
    | true => have := beq_iff.1 hb; subst this; simp [cnd]
    | false =>
      have hne : a ≠ t := fun e => by subst e; rw [beq_iff.2 rfl] at hb; cases hb
      have := memN_iff (t := t) (l := l)
      simp only [cnd, List.mem_cons]
      rw [this]
      exact ⟨.inr, fun h => h.resolve_left (fun e => hne e.symm)⟩
theorem only_get {T : Tm} : ∀ {l : List Nat} {t : Nat} {a : AVal}, (only T l).get t = some a → t ∈ l ∧ T.get t = some a
  | [], t, a, h => by cases h
  | x :: l, t, a, h => by
    have hd : only T (x :: l) = (match T.get x with
      | some v => Tr.set TD (only T l) x v
      | none => only T l) := rfl
    rw [hd] at h
    cases hx : T.get x with
    | none => rw [hx] at h; have := only_get h; exact ⟨.tail _ this.1, this.2⟩
    | some v =>
      rw [hx] at h
      dsimp only at h
      rcases Tr.set_some _ h with ⟨rfl, rfl⟩ | ⟨_, h⟩
      · exact ⟨.head _, hx⟩
      · have := only_get h; exact ⟨.tail _ this.1, this.2⟩
theorem app_eq' {α : Type} : ∀ (l m : List α), app l m = l ++ m
  | [], m => rfl
  | a :: l, m => by show a :: app l m = _; rw [app_eq' l m]; rfl
theorem writes_ok {ops : Array Oper} {i : Nat} {ns : List Nat} : ∀ (l : List Oper) (j0 : Nat), writesOk ops i ns l j0 = true → ∀ k o, l[k]? = some o → ∀ d, o.dst = some d → d ∈ ns →
    j0 + k = i ∨ (i ≤ j0 + k ∧ bit (mask ops (j0 + k)) i = true) ∨ (j0 + k < i ∧ bit (mask ops i) (j0 + k) = true)
  | [], j0, h, k, o, hk, d, hd, hn => by simp at hk
  | x :: l, j0, h, k, o, hk, d, hd, hn => by
    have hdf : writesOk ops i ns (x :: l) j0 = cnd (match x.dst with
      | some d => cnd (Nat.beq i j0) true (cnd (memN d ns) (cnd (Nat.ble i j0) (bit (mask ops j0) i) (bit (mask ops i) j0)) true)
      | none => true) (writesOk ops i ns l (Nat.succ j0)) false := rfl
    rw [hdf] at h
    cases hc : (match x.dst with
      | some d => cnd (Nat.beq i j0) true (cnd (memN d ns) (cnd (Nat.ble i j0) (bit (mask ops j0) i) (bit (mask ops i) j0)) true)
      | none => true) with
    | false => rw [hc] at h; cases h
    | true =>
      rw [hc] at h
      cases k with
      | zero =>
        simp at hk; subst hk
        rw [hd] at hc
        dsimp only at hc
        cases hb : Nat.beq i j0 with
        | true => have := beq_iff.1 hb; subst this; exact .inl rfl
        | false =>
          rw [hb, memN_iff.2 hn] at hc
          cases hb2 : Nat.ble i j0 with
          | true => rw [hb2] at hc; exact .inr (.inl ⟨Nat.le_of_ble_eq_true hb2, hc⟩)
          | false =>
            rw [hb2] at hc
            refine .inr (.inr ⟨?_, hc⟩)
            rcases Nat.lt_or_ge j0 i with h1 | h1
            · simpa using h1
            · rw [Nat.ble_eq_true_of_le h1] at hb2; cases hb2
      | succ k =>
        have := writes_ok l (j0 + 1) h k o (by simpa using hk) d hd hn
        rw [show j0 + 1 + k = j0 + (k + 1) by omega] at this
        exact this
theorem slots_ok {ops : Array Oper} : ∀ (l : List Oper) (i0 : Nat), slotsOk ops l i0 = true → ∀ k o, l[k]? = some o → writesOk ops (i0 + k) (names ops o) ops.toList 0 = true
  | [], i0, h, k, o, hk => by simp at hk
  | x :: l, i0, h, k, o, hk => by
    have hdf : slotsOk ops (x :: l) i0 = cnd (writesOk ops i0 (names ops x) ops.toList 0) (slotsOk ops l (Nat.succ i0)) false := rfl
    rw [hdf] at h
    cases hc : writesOk ops i0 (names ops x) ops.toList 0 with
    | false => rw [hc] at h; cases h
    | true =>
      rw [hc] at h
      cases k with
      | zero => simp at hk; subst hk; exact hc
      | succ k =>
        have := slots_ok l (i0 + 1) h k o (by simpa using hk)
        rw [show i0 + 1 + k = i0 + (k + 1) by omega] at this
        exact this
/-- an operation and a writer of a slot that it names stand in an order -/
theorem slot_order {ops : Array Oper} (h : slotsOk ops ops.toList 0 = true) {i j : Nat} {o p : Oper} (hi : ops[i]? = some o) (hj : ops[j]? = some p) {d : Nat} (hd : p.dst = some d) (hn : d ∈ names ops o) :
    j = i ∨ (i ≤ j ∧ bit (mask ops j) i = true) ∨ (j < i ∧ bit (mask ops i) j = true) := by
  have h1 := slots_ok ops.toList 0 h i o (by simpa using hi)
  have h2 := writes_ok ops.toList 0 h1 j p (by simpa using hj) d hd hn
  simpa using h2
/-! ### The trace of a drawn region -/
def SK.isLoud : SK → Prop
  | .loud _ => True
  | _ => False
structure Tc (C : Cx) (run : Run) (ops : Array Oper) (n : Nat) (s0 : DS) (tr : List St) (D : Nat → DS) : Prop where
  z : D 0 = s0
  st : ∀ (m : Nat) (st : St), tr[m]? = some st → Loc C run ops n m (D m) st ∧ D (m + 1) = nxt ops m (D m) st
  om : ∀ (m : Nat) (st : St), tr[m]? = some st → ops[m]? = some st.o
  mo : ∀ (m : Nat) (o : Oper), ops[m]? = some o → ∃ st : St, tr[m]? = some st ∧ st.o = o
  slots : slotsOk ops ops.toList 0 = true
  edges : edgesOk ops.toList 0 = true
def Loud (tr : List St) (j : Nat) : Prop := ∃ st, tr[j]? = some st ∧ st.k.isLoud
/-- the last writer's value -/
def LastW (tr : List St) (T0 : Tm) (S : Nat → Prop) (d : Nat) (a : AVal) : Prop :=
  (∃ (j : Nat) (st : St), tr[j]? = some st ∧ S j ∧ st.o.dst = some d ∧ st.v = a ∧ ∀ (j' : Nat) (st' : St), tr[j']? = some st' → j < j' → S j' → st'.o.dst ≠ some d) ∨
  ((∀ (j : Nat) (st : St), tr[j]? = some st → S j → st.o.dst ≠ some d) ∧ T0.get d = some a)
theorem LastW.congr {tr : List St} {T0 : Tm} {S S' : Nat → Prop} {d : Nat} {a : AVal} (h : ∀ (j : Nat) (st : St), tr[j]? = some st → st.o.dst = some d → (S j ↔ S' j)) (hl : LastW tr T0 S d a) : LastW tr T0 S' d a := by
  rcases hl with ⟨j, st, h1, h2, h3, h4, h5⟩ | ⟨h1, h2⟩
  · exact .inl ⟨j, st, h1, (h j st h1 h3).1 h2, h3, h4, fun j' st' h6 h7 h8 h9 => h5 j' st' h6 h7 ((h j' st' h6 h9).2 h8) h9⟩
  · exact .inr ⟨fun j st h3 h4 h5 => h1 j st h3 ((h j st h3 h5).2 h4) h5, h2⟩
section
variable {C : Cx} {run : Run} {ops : Array Oper} {n : Nat} {s0 : DS} {tr : List St} {D : Nat → DS}
theorem nxt_T (i : Nat) (s : DS) (st : St) : (nxt ops i s st).T = setO s.T st.o.dst st.v := by
  unfold nxt; cases st.k <;> rfl
theorem nxt_G {i : Nat} {s : DS} {st : St} (h : ¬ st.k.isLoud) : (nxt ops i s st).G = s.G := by
  unfold nxt; cases hk : st.k <;> first | rfl | (rw [hk] at h; exact absurd trivial h)
theorem nxt_old {i : Nat} {s : DS} {st : St} (h : ¬ st.k.isLoud) : (nxt ops i s st).old = s.old := by
  unfold nxt; cases hk : st.k <;> first | rfl | (rw [hk] at h; exact absurd trivial h)
theorem nxt_old_loud {i : Nat} {s : DS} {st : St} (h : st.k.isLoud) : (nxt ops i s st).old = (i, s.G) :: s.old := by
  unfold nxt; cases hk : st.k <;> first | rfl | (rw [hk] at h; exact h.elim)
theorem Tc.T (tc : Tc C run ops n s0 tr D) : ∀ m, m ≤ tr.length → ∀ d a, (D m).T.get d = some a → LastW tr s0.T (fun j => j < m) d a
  | 0, _, d, a, h => by rw [tc.z] at h; exact .inr ⟨fun j st _ hj => absurd hj (Nat.not_lt_zero j), h⟩
  | m + 1, hm, d, a, h => by
    obtain ⟨st, hst⟩ : ∃ st, tr[m]? = some st := ⟨tr[m], List.getElem?_eq_getElem (by omega)⟩
    rw [(tc.st m st hst).2, nxt_T] at h
    rcases setO_get h with ⟨h1, rfl⟩ | ⟨h1, h2⟩
    · exact .inl ⟨m, st, hst, by omega, h1, rfl, fun j' st' _ h3 h4 => by omega⟩
    · refine (tc.T m (by omega) d a h2).congr fun j st' hj hd => ⟨fun h => by omega, fun h => ?_⟩
      rcases Nat.lt_or_ge j m with h3 | h3
      · exact h3
      · have : j = m := by omega
        subst this
        rw [hst] at hj; cases hj
        exact absurd hd h1
theorem Tc.old (tc : Tc C run ops n s0 tr D) (h0 : s0.old = []) : ∀ m, m ≤ tr.length → ((D m).old = [] ∧ ∀ j, j < m → ¬ Loud tr j) ∨
    (∃ j rest, (D m).old = (j, (D j).G) :: rest ∧ Loud tr j ∧ j < m ∧ ∀ j', Loud tr j' → j' < m → j' ≤ j)
  | 0, _ => by rw [tc.z]; exact .inl ⟨h0, fun j hj => absurd hj (Nat.not_lt_zero j)⟩
  | m + 1, hm => by
    obtain ⟨st, hst⟩ : ∃ st, tr[m]? = some st := ⟨tr[m], List.getElem?_eq_getElem (by omega)⟩
    rw [(tc.st m st hst).2]
    rcases Classical.em st.k.isLoud with hl | hl
    · rw [nxt_old_loud hl]
      exact .inr ⟨m, _, rfl, ⟨st, hst, hl⟩, by omega, fun j' _ h => by omega⟩
    · rw [nxt_old hl]
      have hnl : ∀ j, Loud tr j → j < m + 1 → j < m := fun j hj hlt => by
        rcases Nat.lt_or_ge j m with h3 | h3
        · exact h3
        · have : j = m := by omega
          subst this
          obtain ⟨st', h1, h2⟩ := hj
          rw [hst] at h1; cases h1; exact absurd h2 hl
      rcases tc.old h0 m (by omega) with ⟨h1, h2⟩ | ⟨j, rest, h1, h2, h3, h4⟩
      · exact .inl ⟨h1, fun j hj hlj => h2 j (hnl j hlj hj) hlj⟩
      · exact .inr ⟨j, rest, h1, h2, by omega, fun j' hj' hlt => h4 j' hj' (hnl j' hj' hlt)⟩
theorem Tc.old_mem (tc : Tc C run ops n s0 tr D) : ∀ m, m ≤ tr.length → ∀ j, j < m → Loud tr j → (j, (D j).G) ∈ (D m).old
  | 0, _, j, hj, _ => absurd hj (Nat.not_lt_zero j)
  | m + 1, hm, j, hj, hl => by
    obtain ⟨st, hst⟩ : ∃ st, tr[m]? = some st := ⟨tr[m], List.getElem?_eq_getElem (by omega)⟩
    rw [(tc.st m st hst).2]
    rcases Classical.em st.k.isLoud with h | h
    · rw [nxt_old_loud h]
      rcases Nat.lt_or_ge j m with h3 | h3
      · exact .tail _ (tc.old_mem m (by omega) j h3 hl)
      · have : j = m := by omega
        subst this; exact .head _
    · rw [nxt_old h]
      rcases Nat.lt_or_ge j m with h3 | h3
      · exact tc.old_mem m (by omega) j h3 hl
      · have : j = m := by omega
        subst this
        obtain ⟨st', h1, h2⟩ := hl
        rw [hst] at h1; cases h1; exact absurd h2 h
theorem Tc.qs (tc : Tc C run ops n s0 tr D) : ∀ m, m ≤ tr.length → ∀ (j : Nat) (st : St), j < m → tr[j]? = some st → st.k = .read → (⟨j, rs ops (D j) st.o, st.o.op, st.v⟩ : QP) ∈ (D m).qs
  | 0, _, j, st, hj, _, _ => absurd hj (Nat.not_lt_zero j)
  | m + 1, hm, j, st', hj, h1, h2 => by
    obtain ⟨st, hst⟩ : ∃ st, tr[m]? = some st := ⟨tr[m], List.getElem?_eq_getElem (by omega)⟩
    rw [(tc.st m st hst).2]
    rcases Nat.lt_or_ge j m with h3 | h3
    · have := tc.qs m (by omega) j st' h3 h1 h2
      unfold nxt
      cases st.k <;> first | exact this | exact .tail _ this
    · have : j = m := by omega
      subst this
      rw [hst] at h1; cases h1
      unfold nxt
      rw [h2]
      exact .head _
theorem hidden_mem {m : Nat} : ∀ {l : List AD} {a : AD}, a ∈ hidden m l → a ∈ l ∧ bit m a.ix = false
  | [], a, h => by cases h
  | x :: l, a, h => by
    have hd : hidden m (x :: l) = cnd (bit m x.ix) (hidden m l) (x :: hidden m l) := rfl
    rw [hd] at h
    cases hb : bit m x.ix with
    | true => rw [hb] at h; have := hidden_mem (a := a) h; exact ⟨.tail _ this.1, this.2⟩
    | false =>
      rw [hb] at h
      rcases List.mem_cons.1 h with rfl | h
      · exact ⟨.head _, hb⟩
      · have := hidden_mem h; exact ⟨.tail _ this.1, this.2⟩
/-- an allocation, its block, and that no loud one of a set has it in its mask -/
def IsAl (tr : List St) (j id : Nat) (ob : AObj) : Prop := ∃ st mk, tr[j]? = some st ∧ st.k = .alloc id ob mk
theorem Tc.ads (tc : Tc C run ops n s0 tr D) (h0 : s0.ads = []) : ∀ m, m ≤ tr.length → ∀ a, a ∈ (D m).ads → a.ix < m ∧ IsAl tr a.ix a.id a.ob ∧ ∀ j, Loud tr j → j < m → bit (mask ops j) a.ix = false
  | 0, _, a, ha => by rw [tc.z, h0] at ha; cases ha
  | m + 1, hm, a, ha => by
    obtain ⟨st, hst⟩ : ∃ st, tr[m]? = some st := ⟨tr[m], List.getElem?_eq_getElem (by omega)⟩
    rw [(tc.st m st hst).2] at ha
    have ih := tc.ads h0 m (by omega)
    have ext : ∀ a : AD, (∀ j, Loud tr j → j < m → bit (mask ops j) a.ix = false) → (st.k.isLoud → bit (mask ops m) a.ix = false) → ∀ j, Loud tr j → j < m + 1 → bit (mask ops j) a.ix = false := by
      intro a h1 h2 j hj hlt
      rcases Nat.lt_or_ge j m with h3 | h3
      · exact h1 j hj h3
      · have : j = m := by omega
        subst this
        obtain ⟨st', h4, h5⟩ := hj
        rw [hst] at h4; cases h4
        exact h2 h5
    have same : a ∈ (D m).ads → ¬ st.k.isLoud → a.ix < m + 1 ∧ IsAl tr a.ix a.id a.ob ∧ ∀ j, Loud tr j → j < m + 1 → bit (mask ops j) a.ix = false := fun h hl =>
      ⟨by have := (ih a h).1; omega, (ih a h).2.1, ext a (ih a h).2.2 (fun h => absurd h hl)⟩
    unfold nxt at ha
    cases hk : st.k with
    | skip => rw [hk] at ha same; exact same ha id
    | pure => rw [hk] at ha same; exact same ha id
    | read => rw [hk] at ha same; exact same ha id
    | alloc id ob mk =>
      rw [hk] at ha
      rcases List.mem_cons.1 ha with rfl | ha
      · have hid : id = (D m).nid := by have := (tc.st m st hst).1.2; rw [hk] at this; exact this.2.2.2
        refine ⟨Nat.lt_succ_self m, ⟨st, mk, hst, by rw [hk, hid]⟩, fun j hj hlt => ?_⟩
        cases hb : bit (mask ops j) m with
        | false => rfl
        | true =>
          have := mask_lt tc.edges hb
          have : j < m + 1 := hlt
          omega
      · rw [hk] at same; exact same ha (fun h => h)
    | loud H =>
      rw [hk] at ha
      obtain ⟨h1, h2⟩ := hidden_mem ha
      exact ⟨by have := (ih a h1).1; omega, (ih a h1).2.1, ext a (ih a h1).2.2 (fun _ => h2)⟩
theorem Tc.pair (tc : Tc C run ops n s0 tr D) (h0 : s0.ads = []) : ∀ m, m ≤ tr.length → (∀ a, a ∈ (D m).ads → a.id < (D m).nid) ∧ (D m).ads.Pairwise (fun a b => a.id ≠ b.id)
  | 0, _ => by rw [tc.z, h0]; exact ⟨fun a h => (by cases h), .nil⟩
  | m + 1, hm => by
    obtain ⟨st, hst⟩ : ∃ st, tr[m]? = some st := ⟨tr[m], List.getElem?_eq_getElem (by omega)⟩
    rw [(tc.st m st hst).2]
    obtain ⟨h1, h2⟩ := tc.pair h0 m (by omega)
    unfold nxt
    cases hk : st.k with
    | skip => exact ⟨h1, h2⟩
    | pure => exact ⟨h1, h2⟩
    | read => exact ⟨h1, h2⟩
    | alloc id ob mk =>
      refine ⟨fun a ha => ?_, .cons (fun a ha e => ?_) h2⟩
      · show a.id < Nat.succ (D m).nid
        rcases List.mem_cons.1 ha with rfl | ha
        · exact Nat.lt_succ_self _
        · have := h1 a ha; omega
      · have := h1 a ha
        change (D m).nid = a.id at e
        omega
    | loud H =>
      refine ⟨fun a ha => h1 a (hidden_mem ha).1, ?_⟩
      show (hidden (mask ops m) (D m).ads).Pairwise _
      generalize (D m).ads = l at h2
      clear h1
      induction l with
      | nil => exact .nil
      | cons x l ih =>
        have hd : hidden (mask ops m) (x :: l) = cnd (bit (mask ops m) x.ix) (hidden (mask ops m) l) (x :: hidden (mask ops m) l) := rfl
        rw [hd]
        cases hb : bit (mask ops m) x.ix with
        | true => exact ih (List.pairwise_cons.1 h2).2
        | false => exact .cons (fun a ha => (List.pairwise_cons.1 h2).1 a (hidden_mem ha).1) (ih (List.pairwise_cons.1 h2).2)
theorem nxt_nid (i : Nat) (s : DS) (st : St) : (nxt ops i s st).nid = s.nid ∨ ((nxt ops i s st).nid = s.nid + 1 ∧ ∃ id ob mk, st.k = .alloc id ob mk) := by
  unfold nxt
  cases hk : st.k with
  | alloc id ob mk => exact .inr ⟨rfl, id, ob, mk, rfl⟩
  | skip => exact .inl rfl
  | pure => exact .inl rfl
  | read => exact .inl rfl
  | loud H => exact .inl rfl
theorem Tc.nid_le (tc : Tc C run ops n s0 tr D) : ∀ k m, m + k ≤ tr.length → (D m).nid ≤ (D (m + k)).nid
  | 0, m, _ => Nat.le_refl _
  | k + 1, m, h => by
    have ih := tc.nid_le k m (by omega)
    obtain ⟨st, hst⟩ : ∃ st, tr[m + k]? = some st := ⟨tr[m + k], List.getElem?_eq_getElem (by omega)⟩
    have := (tc.st _ st hst).2
    rw [show m + (k + 1) = m + k + 1 by omega, this]
    rcases nxt_nid (ops := ops) (m + k) (D (m + k)) st with h | ⟨h, _⟩ <;> omega
theorem Tc.al_id (tc : Tc C run ops n s0 tr D) {j id : Nat} {ob : AObj} (h : IsAl tr j id ob) : id = (D j).nid ∧ (D (j + 1)).nid = (D j).nid + 1 ∧ j < tr.length := by
  obtain ⟨st, mk, h1, h2⟩ := h
  have hl := (tc.st j st h1).1.2
  have hn := (tc.st j st h1).2
  rw [h2] at hl
  refine ⟨hl.2.2.2, ?_, (List.getElem?_eq_some_iff.1 h1).1⟩
  rw [hn]; unfold nxt; rw [h2]; rfl
/-- two allocations have two numbers -/
theorem Tc.al_ne (tc : Tc C run ops n s0 tr D) {j k id id' : Nat} {ob ob' : AObj} (h : IsAl tr j id ob) (h' : IsAl tr k id' ob') (hne : j ≠ k) : id ≠ id' := by
  obtain ⟨a1, a2, a3⟩ := tc.al_id h
  obtain ⟨b1, b2, b3⟩ := tc.al_id h'
  rcases Nat.lt_or_ge j k with hlt | hge
  · have := tc.nid_le (k - (j + 1)) (j + 1) (by omega)
    rw [show j + 1 + (k - (j + 1)) = k by omega] at this
    omega
  · have := tc.nid_le (j - (k + 1)) (k + 1) (by omega)
    rw [show k + 1 + (j - (k + 1)) = j by omega] at this
    omega
end
end Go.Ev
