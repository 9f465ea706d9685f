import Derived.Test.YtbaaklcoafgcdaaGreatEvH
set_option linter.unusedVariables false
set_option linter.unusedSimpArgs false
namespace Go.Ev
/-! ### What a drawn region's evaluation says, operation for operation -/
noncomputable def setO (T : Tm) (d : Option Tmp) (v : AVal) : Tm := match d with
  | none => T
  | some d => Tr.set TD T d v
theorem putT_cases {β : Type} {n : Nat} {T : Tm} {d : Option Tmp} {v : AVal} {no : β} {k : Tm → β} : putT n T d v no k = no ∨ (putT n T d v no k = k (setO T d v) ∧ ∀ x, d = some x → x < n) := by
  cases d with
  | none => exact .inr ⟨rfl, nofun⟩
  | some d =>
    change cnd (Nat.ble (Nat.succ d) n) (forceV v fun v => k (Tr.set TD T d v)) no = no ∨ cnd (Nat.ble (Nat.succ d) n) (forceV v fun v => k (Tr.set TD T d v)) no = _ ∧ _
    cases h : Nat.ble (Nat.succ d) n with
    | false => exact .inl rfl
    | true => exact .inr ⟨forceV_eq v _, fun x e => by cases e; exact Nat.le_of_ble_eq_true h⟩
theorem setO_get {T : Tm} {d : Option Tmp} {v : AVal} {x : Nat} {a : AVal} (h : (setO T d v).get x = some a) : (d = some x ∧ a = v) ∨ (d ≠ some x ∧ T.get x = some a) := by
  cases d with
  | none => exact .inr ⟨nofun, h⟩
  | some d =>
    change (Tr.set TD T d v).get x = some a at h
    rcases Tr.set_some _ h with ⟨rfl, rfl⟩ | ⟨hne, h⟩
    · exact .inl ⟨rfl, rfl⟩
    · exact .inr ⟨fun e => hne (by cases e; rfl), h⟩
theorem cnd_t {α : Type} (x y : α) : cnd true x y = x := rfl
inductive SK where
  | skip
  | pure
  | read
  | alloc (id : Nat) (ob : AObj) (mk : Nat → AVal)
  | loud (H : AHp)
structure St where
  o : Oper
  v : AVal
  k : SK
noncomputable def rs (ops : Array Oper) (s : DS) (o : Oper) : Tm := only s.T (looks ops o)
def LocK (C : Cx) (run : Run) (ops : Array Oper) (i : Nat) (s : DS) (o : Oper) (v : AVal) : SK → Prop
  | .skip => wantedA (rs ops s o) ops o.guard = some false ∧ v = undefA
  | .pure => wantedA (rs ops s o) ops o.guard = some true ∧ opA C (rs ops s o) s.G o.op = .pure (some v)
  | .read => wantedA (rs ops s o) ops o.guard = some true ∧ opA C (rs ops s o) s.G o.op = .read (some v) ∧ oldOk C (mask ops i) (rs ops s o) o.op v s.old = true
  | .alloc id ob mk => wantedA (rs ops s o) ops o.guard = some true ∧ opA C (rs ops s o) s.G o.op = .alloc (some (ob, mk)) ∧ v = mk id ∧ id = s.nid
  | .loud H => wantedA (rs ops s o) ops o.guard = some true ∧ opA C (rs ops s o) s.G o.op = .loud ∧ lastOk (mask ops i) s.old = true ∧
      loudRun C run (rs ops s o) (revealed false (mask ops i) s.ads s.G) o = .ok v H ∧ qsOk C (mask ops i) H s.qs = true
def Loc (C : Cx) (run : Run) (ops : Array Oper) (n i : Nat) (s : DS) (st : St) : Prop := (∀ x, st.o.dst = some x → x < n) ∧ LocK C run ops i s st.o st.v st.k
noncomputable def nxtK (ops : Array Oper) (i : Nat) (s : DS) (o : Oper) (v : AVal) : SK → DS
  | .skip => ⟨setO s.T o.dst v, s.G, s.old, s.ads, s.qs, s.nid⟩
  | .pure => ⟨setO s.T o.dst v, s.G, s.old, s.ads, s.qs, s.nid⟩
  | .read => ⟨setO s.T o.dst v, s.G, s.old, s.ads, ⟨i, rs ops s o, o.op, v⟩ :: s.qs, s.nid⟩
  | .alloc id ob mk => ⟨setO s.T o.dst v, s.G, s.old, ⟨i, s.nid, ob⟩ :: s.ads, s.qs, Nat.succ s.nid⟩
  | .loud H => ⟨setO s.T o.dst v, H, (i, s.G) :: s.old, hidden (mask ops i) s.ads, s.qs, s.nid⟩
noncomputable def nxt (ops : Array Oper) (i : Nat) (s : DS) (st : St) : DS := nxtK ops i s st.o st.v st.k
def Tra (C : Cx) (run : Run) (ops : Array Oper) (n : Nat) : List St → Nat → DS → DS → Prop
  | [], _, s, sf => s = sf
  | st :: l, i, s, sf => Loc C run ops n i s st ∧ Tra C run ops n l (i + 1) (nxt ops i s st) sf
theorem draw_trace {C : Cx} {run : Run} {fi : FI} {ops : Array Oper} : ∀ (l : List Oper) (i : Nat) (s : DS) (T' : Tm) (H' : AHp), drawLoop C run fi ops l i s = .ok T' H' →
    ∃ tr sf, tr.map St.o = l ∧ Tra C run ops fi.n tr i s sf ∧ T' = sf.T ∧ H' = revealed true 0 sf.ads sf.G
  | [], i, s, T', H', h => by
    change RD.ok s.T (revealed true 0 s.ads s.G) = .ok T' H' at h
    injection h with h1 h2
    exact ⟨[], s, rfl, rfl, h1.symm, h2.symm⟩
  | o :: l, i, s, T', H', h => by
    change drawGo C run fi ops o i s (drawLoop C run fi ops l) (rs ops s o) = .ok T' H' at h
    unfold drawGo at h
    have fin : ∀ (v : AVal) (k : SK) (s1 : DS), (∀ x, o.dst = some x → x < fi.n) → LocK C run ops i s o v k → nxtK ops i s o v k = s1 → drawLoop C run fi ops l (i + 1) s1 = .ok T' H' →
        ∃ tr sf, tr.map St.o = o :: l ∧ Tra C run ops fi.n tr i s sf ∧ T' = sf.T ∧ H' = revealed true 0 sf.ads sf.G := by
      intro v k s1 hx hl hn hd
      obtain ⟨tr, sf, h1, h2, h3, h4⟩ := draw_trace l (i + 1) s1 T' H' hd
      exact ⟨⟨o, v, k⟩ :: tr, sf, by simp [h1], ⟨⟨hx, hl⟩, by rw [show nxt ops i s ⟨o, v, k⟩ = s1 from hn]; exact h2⟩, h3, h4⟩
    cases hw : wantedA (rs ops s o) ops o.guard with
    | none => rw [hw] at h; cases h
    | some b =>
      rw [hw] at h
      cases b with
      | false =>
        change putT fi.n s.T o.dst undefA (.no (.bad fi.fn 31 (some o))) (fun T => drawLoop C run fi ops l (Nat.succ i) ⟨T, s.G, s.old, s.ads, s.qs, s.nid⟩) = .ok T' H' at h
        rcases putT_cases (n := fi.n) (T := s.T) (d := o.dst) (v := undefA) (no := RD.no (.bad fi.fn 31 (some o))) (k := fun T => drawLoop C run fi ops l (Nat.succ i) ⟨T, s.G, s.old, s.ads, s.qs, s.nid⟩) with h1 | ⟨h1, h2⟩
        · rw [h1] at h; cases h
        · rw [h1] at h
          exact fin undefA .skip _ h2 ⟨hw, rfl⟩ rfl h
      | true =>
        dsimp only at h
        cases hx : opA C (rs ops s o) s.G o.op with
        | pure v =>
          rw [hx] at h
          cases v with
          | none => cases h
          | some v =>
            change putT fi.n s.T o.dst v (.no (.bad fi.fn 31 (some o))) (fun T => drawLoop C run fi ops l (Nat.succ i) ⟨T, s.G, s.old, s.ads, s.qs, s.nid⟩) = .ok T' H' at h
            rcases putT_cases (n := fi.n) (T := s.T) (d := o.dst) (v := v) (no := RD.no (.bad fi.fn 31 (some o))) (k := fun T => drawLoop C run fi ops l (Nat.succ i) ⟨T, s.G, s.old, s.ads, s.qs, s.nid⟩) with h1 | ⟨h1, h2⟩
            · rw [h1] at h; cases h
            · rw [h1] at h
              exact fin v .pure _ h2 ⟨hw, hx⟩ rfl h
        | read v =>
          rw [hx] at h
          cases v with
          | none => cases h
          | some v =>
            change cnd (oldOk C (mask ops i) (rs ops s o) o.op v s.old) (putT fi.n s.T o.dst v (.no (.bad fi.fn 31 (some o))) fun T => drawLoop C run fi ops l (Nat.succ i) ⟨T, s.G, s.old, s.ads, ⟨i, rs ops s o, o.op, v⟩ :: s.qs, s.nid⟩) (.no (.bad fi.fn 33 (some o))) = .ok T' H' at h
            cases ho : oldOk C (mask ops i) (rs ops s o) o.op v s.old with
            | false => rw [ho] at h; cases h
            | true =>
              rw [ho] at h
              rcases putT_cases (n := fi.n) (T := s.T) (d := o.dst) (v := v) (no := RD.no (.bad fi.fn 31 (some o))) (k := fun T => drawLoop C run fi ops l (Nat.succ i) ⟨T, s.G, s.old, s.ads, ⟨i, rs ops s o, o.op, v⟩ :: s.qs, s.nid⟩) with h1 | ⟨h1, h2⟩
              · rw [cnd_t] at h
                rw [h1] at h; cases h
              · rw [cnd_t] at h
                rw [h1] at h
                exact fin v .read _ h2 ⟨hw, hx, ho⟩ rfl h
        | alloc v =>
          rw [hx] at h
          cases v with
          | none => cases h
          | some p =>
            change putT fi.n s.T o.dst (p.2 s.nid) (.no (.bad fi.fn 31 (some o))) (fun T => drawLoop C run fi ops l (Nat.succ i) ⟨T, s.G, s.old, ⟨i, s.nid, p.1⟩ :: s.ads, s.qs, Nat.succ s.nid⟩) = .ok T' H' at h
            rcases putT_cases (n := fi.n) (T := s.T) (d := o.dst) (v := p.2 s.nid) (no := RD.no (.bad fi.fn 31 (some o))) (k := fun T => drawLoop C run fi ops l (Nat.succ i) ⟨T, s.G, s.old, ⟨i, s.nid, p.1⟩ :: s.ads, s.qs, Nat.succ s.nid⟩) with h1 | ⟨h1, h2⟩
            · rw [h1] at h; cases h
            · rw [h1] at h
              exact fin (p.2 s.nid) (.alloc s.nid p.1 p.2) _ h2 ⟨hw, hx, rfl, rfl⟩ rfl h
        | loud =>
          rw [hx] at h
          change drawLoud C run fi ops o i s (drawLoop C run fi ops l) (rs ops s o) = .ok T' H' at h
          unfold drawLoud at h
          cases hl : lastOk (mask ops i) s.old with
          | false => rw [hl] at h; cases h
          | true =>
            rw [hl] at h
            cases hr : loudRun C run (rs ops s o) (revealed false (mask ops i) s.ads s.G) o with
            | out => rw [hr] at h; cases h
            | bad a b c => rw [hr] at h; cases h
            | ok v H =>
              rw [hr] at h
              change cnd (qsOk C (mask ops i) H s.qs) (putT fi.n s.T o.dst v (.no (.bad fi.fn 31 (some o))) fun T => drawLoop C run fi ops l (Nat.succ i) ⟨T, H, (i, s.G) :: s.old, hidden (mask ops i) s.ads, s.qs, s.nid⟩) (.no (.bad fi.fn 36 (some o))) = .ok T' H' at h
              cases hq : qsOk C (mask ops i) H s.qs with
              | false => rw [hq] at h; cases h
              | true =>
                rw [hq] at h
                rcases putT_cases (n := fi.n) (T := s.T) (d := o.dst) (v := v) (no := RD.no (.bad fi.fn 31 (some o))) (k := fun T => drawLoop C run fi ops l (Nat.succ i) ⟨T, H, (i, s.G) :: s.old, hidden (mask ops i) s.ads, s.qs, s.nid⟩) with h1 | ⟨h1, h2⟩
                · rw [cnd_t] at h
                  rw [h1] at h; cases h
                · rw [cnd_t] at h
                  rw [h1] at h
                  exact fin v (.loud H) _ h2 ⟨hw, hx, hl, hr, hq⟩ rfl h
/-- the states, place for place -/
theorem trace_states {C : Cx} {run : Run} {ops : Array Oper} {n : Nat} : ∀ (tr : List St) (i : Nat) (s sf : DS), Tra C run ops n tr i s sf →
    ∃ D : Nat → DS, D 0 = s ∧ D tr.length = sf ∧ ∀ m st, tr[m]? = some st → Loc C run ops n (i + m) (D m) st ∧ D (m + 1) = nxt ops (i + m) (D m) st
  | [], i, s, sf, h => ⟨fun _ => s, rfl, h, fun m st hm => by simp at hm⟩
  | st :: l, i, s, sf, h => by
    obtain ⟨D, h0, h1, h2⟩ := trace_states l (i + 1) _ sf h.2
    refine ⟨fun m => match m with
      | 0 => s
      | m + 1 => D m, rfl, h1, fun m st' hm => ?_⟩
    cases m with
    | zero =>
      simp at hm; subst hm
      exact ⟨h.1, h0⟩
    | succ m =>
      have := h2 m st' (by simpa using hm)
      rw [show i + 1 + m = i + (m + 1) by omega] at this
      exact this
end Go.Ev
