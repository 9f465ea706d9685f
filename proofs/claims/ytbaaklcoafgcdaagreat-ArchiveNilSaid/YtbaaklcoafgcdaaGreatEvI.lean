import Derived.Test.YtbaaklcoafgcdaaGreatEvG
set_option linter.unusedVariables false
set_option linter.unusedSimpArgs false
namespace Go.Ev
section
variable {C : Cx} {E : Env} {H : AHp} {w : World} {P : Program}
theorem stepO_sound (ok : CxOk C) {run : Run} (hrun : RunOk C.P run) {fi : FI} {T : Tm} {k : List AItem} {ds : List Nat} {all : Array Oper} {rest : List Oper} {v : AVal} {H' : AHp}
    (h : stepO C run fi T k ds H all rest = .ok v H') (hr : HR C.P E H w) {A : Array Value} {its : List Item} {dl : List Deferred} {r : Option Nat} (ht : TR E fi.n T A) (hi : ItsR k its) (hd : DsR E ds dl) (hrn : RnR E fi.rnd r)
    {is : List Nat} (his : is.map (fun i => all[i]?) = rest.map some) (cs : List Frame) :
    ∃ E' w' u, Ends C.P r (fr0 fi.fn A (.inRegion all is :: its) dl r) cs w u w' ∧ gam E' v = some u ∧ Post C.P E H w E' H' w' := by
  cases rest with
  | nil =>
    have : is = [] := by simpa using his
    subst this
    change run fi T k ds H = .ok v H' at h
    exact go_on hrun h hr (st_todo (by simp [stepG, stepG.exec, fr0])) (Post.refl hr) ⟨ht, hi, hd, hrn⟩
  | cons o rest =>
    cases is with
    | nil => simp at his
    | cons i is =>
      simp only [List.map_cons, List.cons.injEq] at his
      obtain ⟨ho, his⟩ := his
      change Option.rec (doOp C run fi T (.ops rest all :: k) ds H o) (fun p => guardO C run fi T (.ops rest all :: k) ds H o (guardA T all p.1 p.2)) o.guard = R.ok v H' at h
      have main : ∀ b, wantedA T all o.guard = some b → guardO C run fi T (.ops rest all :: k) ds H o (some b) = .ok v H' →
          ∃ E' w' u, Ends C.P r (fr0 fi.fn A (.inRegion all (i :: is) :: its) dl r) cs w u w' ∧ gam E' v = some u ∧ Post C.P E H w E' H' w' := by
        intro b hb hgo
        have hw := wanted_sound ht hb
        cases b with
        | true => exact doOp_sound ok hrun hgo hr ht hi hd hrn ho his hw cs
        | false =>
          change putT fi.n T o.dst undefA (.bad fi.fn 40 (some o)) (fun T => run fi T (.ops rest all :: k) ds H) = R.ok v H' at hgo
          rcases putT_some (n := fi.n) (T := T) (d := o.dst) (v := undefA) (no := R.bad fi.fn 40 (some o)) (k := fun T => run fi T (.ops rest all :: k) ds H) with h1 | ⟨T1, h1, h2⟩
          · rw [h1] at hgo; cases hgo
          · rw [h1] at hgo
            exact go_on hrun hgo hr (st_pass ho hw) (Post.refl hr) ⟨h2 ht gam_undef, .cons (.ops rest all is his) hi, hd, hrn⟩
      cases hg : o.guard with
      | none =>
        rw [hg] at h
        exact main true (by rw [hg]; rfl) h
      | some p =>
        rw [hg] at h
        change guardO C run fi T (.ops rest all :: k) ds H o (guardA T all p.1 p.2) = .ok v H' at h
        cases hb : guardA T all p.1 p.2 with
        | none => rw [hb] at h; cases h
        | some b => rw [hb] at h; exact main b (by rw [hg]; exact hb) h
theorem exit_sound (id : Nat) : ∀ (k : List AItem) (its : List Item), ItsR k its → (∀ k', exitA id k = some k' → ∃ its', exitTo id its = some its' ∧ ItsR k' its') ∧ (exitA id k = none → exitTo id its = none)
  | [], _, .nil => ⟨nofun, fun _ => rfl⟩
  | a :: k, _, .cons (i := i) (m := m) hai ht => by
    have ih := exit_sound id k m ht
    cases hai with
    | inBlock j =>
      have e : exitA id (.inBlock j :: k) = cnd (Nat.beq j id) (some k) (exitA id k) := rfl
      rw [e, beq_eq]
      by_cases hj : j = id
      · simp only [hj, decide_true, cnd, exitTo, beq_self_eq_true, if_true]
        exact ⟨fun k' hk => by cases hk; exact ⟨m, rfl, ht⟩, nofun⟩
      · have hb : (j == id) = false := by simp [hj]
        simp only [hj, decide_false, cnd, exitTo, hb, Bool.false_eq_true, if_false]
        exact ih
    | _ => exact ih
theorem goto_sound (l : Nat) : ∀ (k : List AItem) (its : List Item), ItsR k its → (∀ k', gotoA l k = some k' → ∃ its', gotoIn l its = some its' ∧ ItsR k' its') ∧ (gotoA l k = none → gotoIn l its = none)
  | [], _, .nil => ⟨nofun, fun _ => rfl⟩
  | a :: k, _, .cons (i := i) (m := m) hai ht => by
    have ih := goto_sound l k m ht
    cases hai with
    | inScope b =>
      have e : gotoA l (.inScope b :: k) = (match findLabel b l with
        | some rest => some (.code rest :: .inScope b :: k)
        | none => gotoA l k) := rfl
      rw [e]
      simp only [gotoIn]
      cases findLabel b l with
      | some rest => exact ⟨fun k' hk => by cases hk; exact ⟨_, rfl, .cons (.code rest) (.cons (.inScope b) ht)⟩, nofun⟩
      | none => exact ih
    | _ => exact ih
theorem endLoop_sound (ok : CxOk C) {run : Run} (hrun : RunOk C.P run) {fi : FI} {T : Tm} {k : List AItem} {ds : List Nat} {l : Nat} {H1 : AHp} {a1 : AVal} {v : AVal} {H' : AHp} (h : endLoopA run fi T k ds l (.ok a1 H1) = .ok v H')
    (hr : HR C.P E H1 w) {A : Array Value} {its : List Item} {dl : List Deferred} {r : Option Nat} (ht : TR E fi.n T A) (hi : ItsR k its) (hd : DsR E ds dl) (hrn : RnR E fi.rnd r) {x : Nat} (hx : E.ν l = some x) (cs : List Frame) :
    ∃ E' w' u, Ends C.P r (fr0 fi.fn A (.endRangeFunc x :: its) dl r) cs w u w' ∧ gam E' v = some u ∧ Post C.P E H1 w E' H' w' := by
  unfold endLoopA at h
  dsimp only at h
  split at h
  · rename_i st p f n T' ps a b d hl
    obtain ⟨x', A', y, hx', ht', hy, hw⟩ := loop_of hr hl
    rw [hx] at hx'; cases hx'
    have main : st ≠ .busy → run fi T (codeOpt p k) ds (H1.set l .dead) = .ok v H' →
        ∃ E' w' u, Ends C.P r (fr0 fi.fn A (.endRangeFunc x :: its) dl r) cs w u w' ∧ gam E' v = some u ∧ Post C.P E H1 w E' H' w' := by
      intro hst hgo
      have hp := obj_upd (o' := .dead) (ob' := .loop { state := .exhausted, pending := p, fn := f, tmps := A', params := ps, assign := a, body := b, defers := y }) hr hl rfl hx hw nofun
      have hrl : (Instr.endLoop x).run C.P w = .ok p { w with heap := w.heap.setIfInBounds x (.loop { state := .exhausted, pending := p, fn := f, tmps := A', params := ps, assign := a, body := b, defers := y }) } := by
        have hne : (st == LoopState.busy) = false := by cases st <;> first | rfl | exact absurd rfl hst
        simp only [Instr.endLoop, Sem.run_bind, run_getLoop hw, Result.andThen_ok, hne, Bool.false_eq_true, if_false, run_setObj hw nofun, Sem.run_pure]
      have hits : ItsR (codeOpt p k) ((p.map Item.code).toList ++ its) := by
        cases p with
        | none => exact hi
        | some c => exact .cons (.code c) hi
      refine go_on hrun hgo hr (.one (step_lone_go ?_)) hp ⟨ht, hits, hd, hrn⟩
      simp [stepG, stepG.exec, fr0, hrl]
    cases st with
    | busy => cases h
    | ready => exact main nofun h
    | done => exact main nofun h
    | exhausted => exact main nofun h
  · cases h
theorem beginA_sound (ok : CxOk C) {run : Run} (hrun : RunOk C.P run) {fi : FI} {T : Tm} {k : List AItem} {ds : List Nat} {l : Nat} {v : AVal} {H' : AHp} (h : beginA run fi T k ds H l = .ok v H')
    (hr : HR C.P E H w) {A : Array Value} {its : List Item} {dl : List Deferred} {x : Nat} (ht : TR E fi.n T A) (hi : ItsR k its) (hd : DsR E ds dl) (hrn : RnR E fi.rnd (some x)) (hx : E.ν l = some x) (cs : List Frame) :
    ∃ E' w' u, Ends C.P (some x) (fr0 fi.fn A (.beginRound :: its) dl (some x)) cs w u w' ∧ gam E' v = some u ∧ Post C.P E H w E' H' w' := by
  unfold beginA at h
  split at h
  · rename_i p f n T' ps a b d hl
    obtain ⟨x', A', y, hx', ht', hy, hw⟩ := loop_of hr hl
    rw [hx] at hx'; cases hx'
    have hp := obj_upd (o' := .loop .busy p f n T' ps a b d) (ob' := .loop { state := .busy, pending := p, fn := f, tmps := A', params := ps, assign := a, body := b, defers := y }) hr hl rfl hx hw (fun _ => ⟨A', y, ht', hy, rfl⟩)
    refine go_on hrun h hr (.one (step_lone_go ?_)) hp ⟨ht, hi, hd, hrn⟩
    have hbr : (Instr.beginRound x).run C.P w = .ok () { w with heap := w.heap.setIfInBounds x (.loop { state := .busy, pending := p, fn := f, tmps := A', params := ps, assign := a, body := b, defers := y }) } := by
      simp only [Instr.beginRound, Sem.run_bind, run_getLoop hw, Result.andThen_ok, run_setObj hw nofun, Sem.run_pure]
    simp [stepG, stepG.exec, stepG.apply, fr0, hbr, Frame.finish]
  · cases h
theorem rangeIn_sound (ok : CxOk C) {run : Run} (hrun : RunOk C.P run) {fi : FI} {T : Tm} {k : List AItem} {ds : List Nat} {f : FuncId} {first cap : List AVal} {ps : Array Tmp} {a b : Code} {d : Nat} {v : AVal} {H' : AHp}
    (h : rangeIn C run fi T k ds H f first cap ps a b d = .ok v H') (hr : HR C.P E H w) {A : Array Value} {its : List Item} {dl : List Deferred} {r : Option Nat} (ht : TR E fi.n T A) (hi : ItsR k its) (hd : DsR E ds dl) (hrn : RnR E fi.rnd r)
    {y : Nat} (hy : E.ν d = some y) {p q : Array Value} (hp : gams E first = some p.toList) (hq : gams E cap = some q.toList) (cs : List Frame) :
    ∃ E' w' u, gam E' v = some u ∧ Post C.P E H w E' H' w' ∧ ∀ (frA : Frame) (w0 : World),
      Steps C.P (lone frA cs w0) (lone (Frame.enter C.P f (p ++ #[Value.func (.yield w.heap.size) #[] #[]] ++ q) .normal) (fr0 fi.fn A (.inRangeFunc w.heap.size :: its) dl r :: cs) (w.alloc (.loop { state := .ready, pending := none, fn := fi.fn, tmps := A, params := ps, assign := a, body := b, defers := y }))) →
      frA.fn = fi.fn → Ends C.P r frA cs w0 u w' := by
  unfold rangeIn at h
  cases he : enterA C f (app first (.yieldf H.nx :: cap)) run (H.new (.loop .ready none fi.fn fi.n T ps a b d)) with
  | out => rw [he] at h; cases h
  | bad x1 x2 x3 => rw [he] at h; cases h
  | ok a1 H1 =>
    rw [he] at h
    have hpost := Post.alloc (c := 0) (ao := .loop .ready none fi.fn fi.n T ps a b d) (ob := .loop { state := .ready, pending := none, fn := fi.fn, tmps := A, params := ps, assign := a, body := b, defers := y }) hr
      ⟨A, y, ht.mono (Env.put_le (hr.fresh _ (Nat.le_refl _)).1), ((Env.put_le (hr.fresh _ (Nat.le_refl _)).1).m _ _ hy).1, rfl⟩
    have le := hpost.le hr
    have hnx : (E.put H.nx w.heap.size 0).ν H.nx = some w.heap.size := by simp [Env.put]
    have hg : gams (E.put H.nx w.heap.size 0) (app first (.yieldf H.nx :: cap)) = some (p ++ #[Value.func (.yield w.heap.size) #[] #[]] ++ q).toList := by
      rw [app_eq]
      have h1 := gams_mono le _ hp
      have h2 := gams_mono le _ hq
      have h3 : gams (E.put H.nx w.heap.size 0) (.yieldf H.nx :: cap) = some (.func (.yield w.heap.size) #[] #[] :: q.toList) := gams_cons.2 ⟨_, _, by simp only [gam, hnx], h2, rfl⟩
      simpa using gams_append h1 h3
    obtain ⟨E1, w1, u1, h1, h2, h3⟩ := enterA_sound ok hrun he hpost.hr hg (fr0 fi.fn A (.inRangeFunc w.heap.size :: its) dl r :: cs)
    have hp1 := hpost.trans h3
    have le1 := hp1.le hr
    have hx1 : E1.ν H.nx = some w.heap.size := (h3.le hpost.hr).m _ _ hnx |>.1
    obtain ⟨E2, w2, u2, h4, h5, h6⟩ := endLoop_sound ok hrun h hp1.hr (ht.mono le1) hi (hd.mono le1) (hrn.mono le1) hx1 cs
    refine ⟨E2, w2, u2, h5, hp1.trans h6, fun frA w0 hs hfn => Ends.after (hs.trans ?_) ?_ h4⟩
    · have := h1.to
      exact this
    · exact hfn.symm
end
end Go.Ev
