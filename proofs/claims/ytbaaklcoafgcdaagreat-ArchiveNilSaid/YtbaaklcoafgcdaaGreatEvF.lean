import Derived.Test.YtbaaklcoafgcdaaGreatEvE
set_option linter.unusedVariables false
set_option linter.unusedSimpArgs false
namespace Go.Ev
section
variable {C : Cx} {E : Env} {H : AHp} {w : World} {P : Program}
/-! ### A function returns -/
def frB (fn : FuncId) (A : Array Value) (its : List Item) (dl : List Deferred) : Frame :=
  { fn, tmps := A, todo := its, defers := dl, mode := .returning, kind := .normal, roundOf := none }
theorem run_getObj {b : Nat} {o : Obj} (h : w.heap[b]? = some o) (hc : ∀ c e f, o ≠ .cells c e f) : (getObj b).run P w = .ok o w := by
  cases o <;> first | (simp [getObj, Sem.run, h]; done) | exact absurd rfl (hc _ _ _)
theorem run_setObj {b : Nat} {o o' : Obj} (h : w.heap[b]? = some o) (hc : ∀ c e f, o ≠ .cells c e f) : (setObj b o').run P w = .ok () { w with heap := w.heap.setIfInBounds b o' } := by
  cases o <;> first | (simp [setObj, Sem.run, h]; done) | exact absurd rfl (hc _ _ _)
theorem obj_upd (hr : HR P E H w) {i b : Nat} {o o' : AObj} {ob ob' : Obj} (hi : H.get i = some o) (hl : o.live = true) (hb : E.ν i = some b) (hw : w.heap[b]? = some ob) (hor : o'.live = true → OR P E i o' ob') :
    Post P E H w E (H.set i o') { w with heap := w.heap.setIfInBounds b ob' } :=
  Post.upd hr hi hl hb (by simp [heap_lt hw]) (fun d hd => by simp [Array.getElem?_setIfInBounds_ne (Ne.symm hd)]) (by simp) hor rfl rfl rfl
theorem unwinds {fn : FuncId} {A : Array Value} {its : List Item} {cs : List Frame} : ∀ (ds : List Nat) (dl : List Deferred) (H H1 : AHp) (w : World), DsR E ds dl → dropDefers ds H = some H1 → HR P E H w →
    ∃ w1, Steps P (lone (frB fn A its dl) cs w) (lone (frB fn A its []) cs w1) ∧ Post P E H w E H1 w1
  | [], _, H, H1, w, .nil, h, hr => by cases h; exact ⟨w, .refl _ _, Post.refl hr⟩
  | d :: ds, _, H, H1, w, .cons (b := b) (m := m) hb ht, h, hr => by
    change (match H.get d with
      | some .deferred => dropDefers ds (H.set d .dead)
      | _ => none) = some H1 at h
    split at h
    · rename_i hd
      obtain ⟨b', ob, hb', hw, hor⟩ := hr.obj d _ hd rfl
      rw [hb] at hb'; cases hb'
      have hor : ob = .deferred (some []) := hor
      subst hor
      have hp := obj_upd (o' := .dead) (ob' := .deferred none) hr hd rfl hb hw nofun
      obtain ⟨w1, h1, h2⟩ := unwinds ds m _ H1 _ ht h hp.hr
      refine ⟨w1, .head (step_lone_go ?_) h1, hp.trans h2⟩
      have hrun : (Instr.takeDeferred b).run P w = .ok [] { w with heap := w.heap.setIfInBounds b (.deferred none) } := by
        simp only [Instr.takeDeferred, Sem.run_bind, run_getObj hw nofun, run_setObj hw nofun, Result.andThen_ok, Sem.run_pure]
      simp [stepG, unwind, frB, hrun]
    · cases h
/-- how one result is read -/
noncomputable def resF (A : Array Value) (x : ResultVar) : Sem Value := ResultVar.rec (fun t => pure (A.getD t undef)) (fun a t => asAddr (A.getD a undef) >>= loadVar t) x
theorem run_results (ok : CxOk C) (hr : HR C.P E H w) {n : Nat} {T : Tm} {A : Array Value} (ht : TR E n T A) : ∀ (l : List ResultVar) (vs : List AVal), resultsA C H T l = some vs →
    ∃ us, (l.mapM (resF A)).run C.P w = .ok us w ∧ gams E vs = some us
  | [], vs, h => by cases h; exact ⟨[], rfl, rfl⟩
  | x :: l, vs, h => by
    change (match resA C H T x with
      | some v => match resultsA C H T l with
        | some vs => some (v :: vs)
        | none => none
      | none => none) = some vs at h
    split at h
    · rename_i v hv
      split at h
      · rename_i vs' hvs
        injection h with h
        subst h
        obtain ⟨us, h1, h2⟩ := run_results ok hr ht l vs' hvs
        have hx : ∃ u, (resF A x).run C.P w = .ok u w ∧ gam E v = some u := by
          cases x with
          | tmp t => exact ⟨_, rfl, ev_sound ht (x := .tmp t) hv⟩
          | cell a t =>
            obtain ⟨p, hp, hl⟩ := uno_some (show uno (T.get a) (fun p => loadA C H t p) = some v from hv)
            obtain ⟨u, h3, h4, y, o, he⟩ := loadA_sound ok hr (ev_sound ht (x := .tmp a) hp) hl
            refine ⟨u, ?_, h4⟩
            have he' : A.getD a undef = .pointer (some ⟨y, o, none⟩) := he
            change (Instr.loadAt t (A.getD a undef)).run C.P w = _ at h3
            show (asAddr (A.getD a undef) >>= loadVar t).run C.P w = _
            rw [he'] at h3 ⊢
            simpa [Instr.loadAt, Instr.sureAddr, asAddr] using h3
        obtain ⟨u, h3, h4⟩ := hx
        refine ⟨u :: us, ?_, gams_cons.2 ⟨u, us, h4, h2, rfl⟩⟩
        rw [List.mapM_cons]
        simp only [Sem.run_bind, h3, h1, Result.andThen_ok, Sem.run_pure]
      · cases h
    · cases h
theorem results_run {fn : Func} {A : Array Value} {us : List Value} (h : (fn.results.toList.mapM (resF A)).run P w = .ok us w) :
    (results fn A).run P w = .ok (if h : us.toArray.size = 1 then us.toArray[0] else .tuple us.toArray) w := by
  have e : results fn A = fn.results.mapM (resF A) >>= fun vs => pure (if h : vs.size = 1 then vs[0] else .tuple vs) := by
    unfold results
    congr 1
    congr 1
    funext x
    cases x <;> rfl
  rw [e, Array.mapM_eq_mapM_toList]
  simp only [Sem.run_bind, Sem.run_map, h, Result.andThen_ok, Sem.run_pure]
theorem leaveF_sound (ok : CxOk C) {fi : FI} {T : Tm} {ds : List Nat} {v : AVal} {H' : AHp} (h : leaveF C fi T ds H = .ok v H') (hr : HR C.P E H w) {A : Array Value} (its : List Item) {dl : List Deferred} (ht : TR E fi.n T A) (hd : DsR E ds dl) (cs : List Frame) :
    ∃ w' u fr', Steps C.P (lone (frB fi.fn A its dl) cs w) (lone fr' cs w') ∧ fr'.fn = fi.fn ∧ fr'.leaving C.P w' (.returned u) ∧ gam E v = some u ∧ Post C.P E H w E H' w' := by
  unfold leaveF at h
  split at h
  · rename_i H1 hH1
    obtain ⟨w1, h1, h2⟩ := unwinds (fn := fi.fn) (A := A) (its := its) (cs := cs) ds dl H H1 w hd hH1 hr
    split at h
    · rename_i fn hfn
      split at h
      · rename_i vs hvs
        injection h with h3 h4
        subst h3 h4
        obtain ⟨us, h5, h6⟩ := run_results ok h2.hr ht _ _ hvs
        have hl := gams_len h6
        have hres : ∃ u, (results fn A).run C.P w1 = .ok u w1 ∧ gam E (oneA vs) = some u := by
          rw [results_run h5]
          match vs, us, h6, hl with
          | [], [], h6, _ => exact ⟨_, rfl, by simp [oneA, gam, gams]⟩
          | [a], [u], h6, _ =>
            obtain ⟨x, hx, he⟩ := one_gams h6
            cases he
            exact ⟨u, by simp, hx⟩
          | a :: b :: l, u :: u2 :: l', h6, _ =>
            refine ⟨.tuple (u :: u2 :: l').toArray, by simp, ?_⟩
            show gam E (.tuple (a :: b :: l)) = _
            simp only [gam, h6]
        obtain ⟨u, h7, h8⟩ := hres
        exact ⟨w1, u, _, h1, rfl, ⟨rfl, rfl, rfl, fn, ok.fs _ fn hfn, h7⟩, h8, h2⟩
      · cases h
    · cases h
  · cases h

/-! ### A frame is left -/
theorem st_ret {fn : FuncId} {A : Array Value} {its : List Item} {dl : List Deferred} {cs : List Frame} (h : its = [] ∨ ∃ k, its = .code .ret :: k) :
    Steps P (lone (fr0 fn A its dl none) cs w) (lone (frB fn A its dl) cs w) := by
  refine .one (step_lone_go ?_)
  rcases h with rfl | ⟨k, rfl⟩ <;> simp [stepG, stepG.exec, fr0, frB]
/-- the item at which a frame is left, and by which jump -/
inductive Left : List Item → Option Code → Prop
  | done : Left [] none
  | ret (k) : Left (.code .ret :: k) (some .ret)
  | exit (id k) (h : exitTo id k = none) : Left (.code (.exit id) :: k) (some (.exit id))
  | goto (l k) (h : gotoIn l k = none) : Left (.code (.goto l) :: k) (some (.goto l))
theorem st_leave {fn : FuncId} {A : Array Value} {its : List Item} {dl : List Deferred} {l : Nat} {c : Frame} {cs : List Frame} {j : Option Code} (h : Left its j) {u : Value} {w' : World} (hrun : (Instr.endRound l j).run P w = .ok u w') :
    Steps P (lone (fr0 fn A its dl (some l)) (c :: cs) w) (lone (c.finish u) cs w') := by
  refine .one (step_lone_go ?_)
  cases h with
  | done => simp [stepG, stepG.exec, fr0, hrun, doReturn]
  | ret k => simp [stepG, stepG.exec, fr0, hrun, doReturn]
  | exit id k h => simp [stepG, stepG.exec, fr0, hrun, doReturn, h]
  | goto l' k h => simp [stepG, stepG.exec, fr0, hrun, doReturn, h]
theorem loop_of (hr : HR P E H w) {i : Nat} {st : LoopState} {p : Option Code} {fn n : Nat} {T : Tm} {ps : Array Tmp} {a b : Code} {d : Nat} (h : H.get i = some (.loop st p fn n T ps a b d)) :
    ∃ x A y, E.ν i = some x ∧ TR E n T A ∧ E.ν d = some y ∧ w.heap[x]? = some (.loop { state := st, pending := p, fn := fn, tmps := A, params := ps, assign := a, body := b, defers := y }) := by
  obtain ⟨x, ob, hx, hw, A, y, ht, hy, rfl⟩ := hr.obj i _ h rfl
  exact ⟨x, A, y, hx, ht, hy, hw⟩
theorem run_getLoop {x : Nat} {l : Loop} (h : w.heap[x]? = some (.loop l)) : (Instr.getLoop x).run P w = .ok l w := by
  simp only [Instr.getLoop, Sem.run_bind, run_getObj h nofun, Result.andThen_ok, Sem.run_pure]
theorem leaveR_sound {l : Nat} {jump : Option Code} {v : AVal} {H' : AHp} (h : leaveR l H jump = .ok v H') (hr : HR P E H w) :
    ∃ x u w', E.ν l = some x ∧ (Instr.endRound x jump).run P w = .ok u w' ∧ gam E v = some u ∧ Post P E H w E H' w' := by
  unfold leaveR at h
  split at h
  · rename_i st p f n T ps a b d hl
    obtain ⟨x, A, y, hx, ht, hy, hw⟩ := loop_of hr hl
    have hrun : ∀ (r' : Loop) (j : Option Code), r' = { state := if j.isNone then .ready else .done, pending := j, fn := f, tmps := A, params := ps, assign := a, body := b, defers := y } →
        (Instr.endRound x j).run P w = .ok (.bool j.isNone) { w with heap := w.heap.setIfInBounds x (.loop r') } := by
      intro r' j e
      subst e
      simp only [Instr.endRound, Sem.run_bind, run_getLoop hw, run_setObj hw nofun, Result.andThen_ok, Sem.run_pure]
    split at h
    · injection h with h1 h2
      subst h1 h2
      exact ⟨x, _, _, hx, hrun _ none rfl, rfl, obj_upd hr hl rfl hx hw (fun _ => ⟨A, y, ht, hy, rfl⟩)⟩
    · rename_i j
      injection h with h1 h2
      subst h1 h2
      exact ⟨x, _, _, hx, hrun _ (some j) rfl, rfl, obj_upd hr hl rfl hx hw (fun _ => ⟨A, y, ht, hy, rfl⟩)⟩
  · cases h
theorem leaveA_sound (ok : CxOk C) {fi : FI} {T : Tm} {ds : List Nat} {jump : Option Code} {v : AVal} {H' : AHp} (h : leaveA C fi T ds H jump = .ok v H') (hr : HR C.P E H w) {A : Array Value} {its : List Item} {dl : List Deferred} {r : Option Nat}
    (ht : TR E fi.n T A) (hd : DsR E ds dl) (hrn : RnR E fi.rnd r) (hl : Left its jump) (cs : List Frame) : ∃ E' w' u, Ends C.P r (fr0 fi.fn A its dl r) cs w u w' ∧ gam E' v = some u ∧ Post C.P E H w E' H' w' := by
  unfold leaveA at h
  cases hq : fi.rnd with
  | none =>
    rw [hq] at h hrn
    cases r with
    | some b => exact hrn.elim
    | none =>
      dsimp only at h
      cases hj : retJump jump with
      | false => rw [hj] at h; cases h
      | true =>
        rw [hj] at h
        have hits : its = [] ∨ ∃ k, its = .code .ret :: k := by
          cases hl with
          | done => exact .inl rfl
          | ret k => exact .inr ⟨k, rfl⟩
          | exit id k _ => cases hj
          | goto l k _ => cases hj
        obtain ⟨w', u, fr', h1, h2, h3, h4, h5⟩ := leaveF_sound ok h hr its ht hd cs
        exact ⟨E, w', u, ⟨fr', (st_ret hits).trans h1, h2, h3⟩, h4, h5⟩
  | some l =>
    rw [hq] at h hrn
    cases r with
    | none => exact hrn.elim
    | some b =>
      have hrn : E.ν l = some b := hrn
      obtain ⟨x, u, w', hx, h1, h2, h3⟩ := leaveR_sound h hr
      rw [hrn] at hx; cases hx
      exact ⟨E, w', u, fun c cs' e => by subst e; exact st_leave hl h1, h2, h3⟩
end
end Go.Ev
