import Derived.Test.YtbaaklcoafgcdaaGreatEvI
set_option linter.unusedVariables false
set_option linter.unusedSimpArgs false
namespace Go.Ev
/-- what is asked of a region that draws its order -/
def DrawOk (C : Cx) : Prop := ∀ (run : Run), RunOk C.P run → ∀ (fi : FI) (ops : Array Oper) (T : Tm) (H : AHp) (T' : Tm) (H' : AHp), drawOk ops = true → Nat.ble (Nat.add H.nx (countAlloc C ops.toList)) HN = true →
  drawLoop C run fi ops ops.toList 0 ⟨T, ⟨H.t, Nat.add H.nx (countAlloc C ops.toList)⟩, [], [], [], H.nx⟩ = .ok T' H' →
  ∀ (E : Env) (w : World) (A : Array Value) (its : List Item) (dl : List Deferred) (r : Option Nat) (cs : List Frame) (t : Nat), HR C.P E H w → TR E fi.n T A →
    ∃ E' w' A', Steps C.P (lone (fr0 fi.fn A (.inRegion ops (Region.linearise .any ops t) :: its) dl r) cs w) (lone (fr0 fi.fn A' (.inRegion ops [] :: its) dl r) cs w') ∧ TR E' fi.n T' A' ∧ Post C.P E H w E' H' w'
section
variable {C : Cx} {E : Env} {H : AHp} {w : World} {P : Program}
theorem st_range {fn f : FuncId} {A p q : Array Value} {its : List Item} {dl : List Deferred} {r : Option Nat} {cs : List Frame} {x : Operand} {ps : Array Tmp} {a b : Code} {l : Nat} {mark : List Deferred} {w1 : World}
    (hx : evalA A x = .func (.func f) p q) (hl : (Instr.enterLoop fn A ps a b r).run P w = .ok (l, mark) w1) (hc : ∀ args w, (callFunc f args).run P w = .ok (.enter f args) w) :
    Steps P (lone (fr0 fn A (.code (.rangeFunc x ps a b) :: its) dl r) cs w) (lone (Frame.enter P f (p ++ #[Value.func (.yield l) #[] #[]] ++ q) .normal) (fr0 fn A (.inRangeFunc l :: its) (mark ++ dl) r :: cs) w1) := by
  have he : ∀ fr : Frame, fr.tmps = A → fr.eval x = .func (.func f) p q := fun fr h => by rw [frame_eval, h]; exact hx
  have hcc := hc (p ++ #[Value.func (.yield l) #[] #[]] ++ q) w1
  refine .one (step_lone_go ?_)
  simp only [stepG, stepG.exec, fr0, Sem.runT_eq, hl, GStep.bare_after]
  have hrun : (do let d ← resolve (Frame.eval { fn := fn, tmps := A, todo := .inRangeFunc l :: its, defers := mark ++ dl, mode := .run, kind := .normal, roundOf := r }) { callee := .value x, args := #[.const (.func (.yield l) #[] #[])], argTypes := #[] } 0; invoke d.target d.args : Sem Next).run P w1 = .ok (.enter f (p ++ #[Value.func (.yield l) #[] #[]] ++ q)) w1 := by
    simp only [Sem.run_bind, resolve]
    rw [he _ rfl]
    simp only [Deferred.ofValue, Sem.run_pure, Result.andThen_ok, invoke]
    have hmap : ∀ fr : Frame, (#[Operand.const (Value.func (.yield l) #[] #[])] : Array Operand).map fr.eval = #[Value.func (.yield l) #[] #[]] := fun fr => by simp [Frame.eval]
    rw [hmap]
    exact hcc
  simp only [Sem.run_bind] at hrun
  simp [stepG.apply, hrun]
theorem rangeA_sound (ok : CxOk C) {run : Run} (hrun : RunOk C.P run) {fi : FI} {T : Tm} {k : List AItem} {ds : List Nat} {x : Operand} {ps : Array Tmp} {a b : Code} {v : AVal} {H' : AHp}
    (h : rangeA C run fi T k ds H (ev T x) ps a b = .ok v H') (hr : HR C.P E H w) {A : Array Value} {its : List Item} {dl : List Deferred} {r : Option Nat} (ht : TR E fi.n T A) (hi : ItsR k its) (hd : DsR E ds dl) (hrn : RnR E fi.rnd r) (cs : List Frame) :
    ∃ E' w' u, Ends C.P r (fr0 fi.fn A (.code (.rangeFunc x ps a b) :: its) dl r) cs w u w' ∧ gam E' v = some u ∧ Post C.P E H w E' H' w' := by
  unfold rangeA at h
  split at h
  · rename_i f first cap hx
    obtain ⟨p, q, hxe, hp, hq⟩ := func_gam (ev_sound ht hx)
    have he : isN (extOf C f) = true := by rw [ok.ex f]; rfl
    rw [he] at h
    cases hc : callable C f with
    | false => rw [hc] at h; cases h
    | true =>
      rw [hc] at h
      have hcall := ok.call f hc
      cases hb : Nat.ble (Nat.add H.nx 2) HN with
      | false => rw [hb] at h; cases h
      | true =>
        rw [hb] at h
        cases hq0 : fi.rnd with
        | none =>
          rw [hq0] at h hrn
          cases r with
          | some _ => exact hrn.elim
          | none =>
            change rangeIn C run fi T k (H.nx :: ds) (H.new .deferred) f first cap ps a b H.nx = .ok v H' at h
            have hpost := Post.alloc (c := 0) (ao := .deferred) (ob := .deferred (some [])) hr rfl
            have le := hpost.le hr
            have hnx : (E.put H.nx w.heap.size 0).ν H.nx = some w.heap.size := by simp [Env.put]
            obtain ⟨E', w', u, h1, h2, h3⟩ := rangeIn_sound ok hrun h hpost.hr (r := none) (ht.mono le) hi (.cons hnx (hd.mono le)) (by rw [hq0]; trivial) hnx (gams_mono le _ hp) (gams_mono le _ hq) cs
            refine ⟨E', w', u, h3 _ _ ?_ rfl, h1, hpost.trans h2⟩
            have hl : (Instr.enterLoop fi.fn A ps a b none).run C.P w = .ok ((w.alloc (.deferred (some []))).heap.size, [{ target := .collected w.heap.size, args := #[] }])
                ((w.alloc (.deferred (some []))).alloc (.loop { state := .ready, pending := none, fn := fi.fn, tmps := A, params := ps, assign := a, body := b, defers := w.heap.size })) := by
              simp only [Instr.enterLoop, Sem.run_bind, run_newObj_alloc, Result.andThen_ok, Sem.run_pure]
            exact st_range hxe hl hcall
        | some l0 =>
          rw [hq0] at h hrn
          cases r with
          | none => exact hrn.elim
          | some x0 =>
            have hrn : E.ν l0 = some x0 := hrn
            change (match H.get l0 with
              | some (.loop _ _ _ _ _ _ _ _ d) => rangeIn C run fi T k ds H f first cap ps a b d
              | _ => .bad fi.fn 51 none) = .ok v H' at h
            split at h
            · rename_i st pe f' n' T' ps' a' b' d hl0
              obtain ⟨x', A', y, hx', ht', hy, hw⟩ := loop_of hr hl0
              rw [hrn] at hx'; cases hx'
              obtain ⟨E', w', u, h1, h2, h3⟩ := rangeIn_sound ok hrun h hr (r := some x0) ht hi hd (by rw [hq0]; exact hrn) hy hp hq cs
              refine ⟨E', w', u, h3 _ _ ?_ rfl, h1, h2⟩
              have hl : (Instr.enterLoop fi.fn A ps a b (some x0)).run C.P w = .ok (w.heap.size, [])
                  (w.alloc (.loop { state := .ready, pending := none, fn := fi.fn, tmps := A, params := ps, assign := a, body := b, defers := y })) := by
                simp only [Instr.enterLoop, Sem.run_bind, run_getLoop hw, run_newObj_alloc, Result.andThen_ok, Sem.run_pure]
              exact st_range hxe hl hcall
            · cases h
  · cases h
theorem st_draw {fn : FuncId} {A : Array Value} {its : List Item} {dl : List Deferred} {r : Option Nat} {cs : List Frame} {id : Nat} {ops : Array Oper} (hm : P.follows .mixedOrders = true) :
    ∃ t, Steps P (lone (fr0 fn A (.code (.region id ops true) :: its) dl r) cs w) (lone (fr0 fn A (.inRegion ops (Region.linearise .any ops t) :: its) dl r) cs { w with drawn := w.drawn + 1 }) := by
  refine ⟨w.tape w.drawn (.order fn id), .one (step_lone_go ?_)⟩
  simp [stepG, stepG.exec, fr0, choose, Sem.run, Question.forced, Question.cut, hm, Region.schedule]
theorem stepC_sound (ok : CxOk C) (hdraw : DrawOk C) {run : Run} (hrun : RunOk C.P run) {fi : FI} {T : Tm} {k : List AItem} {ds : List Nat} {c : Code} {v : AVal} {H' : AHp}
    (h : stepC C run fi T k ds H c = .ok v H') (hr : HR C.P E H w) {A : Array Value} {its : List Item} {dl : List Deferred} {r : Option Nat} (ht : TR E fi.n T A) (hi : ItsR k its) (hd : DsR E ds dl) (hrn : RnR E fi.rnd r) (cs : List Frame) :
    ∃ E' w' u, Ends C.P r (fr0 fi.fn A (.code c :: its) dl r) cs w u w' ∧ gam E' v = some u ∧ Post C.P E H w E' H' w' := by
  cases c with
  | skip => exact go_on hrun h hr (st_todo (by simp [stepG, stepG.exec, fr0])) (Post.refl hr) ⟨ht, hi, hd, hrn⟩
  | label l => exact go_on hrun h hr (st_todo (by simp [stepG, stepG.exec, fr0])) (Post.refl hr) ⟨ht, hi, hd, hrn⟩
  | seq a b => exact go_on hrun h hr (st_todo (by simp [stepG, stepG.exec, fr0])) (Post.refl hr) ⟨ht, .cons (.code a) (.cons (.code b) hi), hd, hrn⟩
  | block id body => exact go_on hrun h hr (st_todo (by simp [stepG, stepG.exec, fr0])) (Post.refl hr) ⟨ht, .cons (.code body) (.cons (.inBlock id) hi), hd, hrn⟩
  | loop body => exact go_on hrun h hr (st_todo (by simp [stepG, stepG.exec, fr0])) (Post.refl hr) ⟨ht, .cons (.code body) (.cons (.inLoop body) hi), hd, hrn⟩
  | scope body => exact go_on hrun h hr (st_todo (by simp [stepG, stepG.exec, fr0])) (Post.refl hr) ⟨ht, .cons (.code body) (.cons (.inScope body) hi), hd, hrn⟩
  | refuse why => cases h
  | ret => exact leaveA_sound ok h hr ht hd hrn (.ret its) cs
  | cond x t e =>
    change condA C run fi T k ds H (ev T x) t e = .ok v H' at h
    unfold condA at h
    split at h
    · rename_i b hb
      have hx := ev_sound ht hb
      have hx : evalA A x = .bool b := by simp only [gam] at hx; injection hx with hx; exact hx.symm
      have he : (fr0 fi.fn A (.code (.cond x t e) :: its) dl r).eval x = .bool b := by rw [frame_eval]; exact hx
      have hc : cnd b t e = if b then t else e := by cases b <;> rfl
      rw [hc] at h
      refine go_on hrun h hr (st_todo ?_) (Post.refl hr) ⟨ht, .cons (.code _) hi, hd, hrn⟩
      simp only [fr0] at he ⊢
      simp [stepG, stepG.exec, he]
    · cases h
  | exit id =>
    change jumpA C run fi T ds H (exitA id k) (.exit id) = .ok v H' at h
    obtain ⟨e1, e2⟩ := exit_sound id k its hi
    unfold jumpA at h
    split at h
    · rename_i k' hk
      obtain ⟨its', h1, h2⟩ := e1 k' hk
      exact go_on hrun h hr (st_todo (by simp [stepG, stepG.exec, fr0, h1])) (Post.refl hr) ⟨ht, h2, hd, hrn⟩
    · rename_i hk
      exact leaveA_sound ok h hr ht hd hrn (.exit id its (e2 hk)) cs
  | goto l =>
    change jumpA C run fi T ds H (gotoA l k) (.goto l) = .ok v H' at h
    obtain ⟨e1, e2⟩ := goto_sound l k its hi
    unfold jumpA at h
    split at h
    · rename_i k' hk
      obtain ⟨its', h1, h2⟩ := e1 k' hk
      exact go_on hrun h hr (st_todo (by simp [stepG, stepG.exec, fr0, h1])) (Post.refl hr) ⟨ht, h2, hd, hrn⟩
    · rename_i hk
      exact leaveA_sound ok h hr ht hd hrn (.goto l its (e2 hk)) cs
  | region id ops draw =>
    change regionA C run fi T k ds H ops draw = .ok v H' at h
    unfold regionA at h
    cases draw with
    | false =>
      change run fi T (.ops ops.toList ops :: k) ds H = .ok v H' at h
      refine go_on hrun h hr (its1 := .inRegion ops (List.range ops.size) :: its) (st_todo (by simp [stepG, stepG.exec, fr0])) (Post.refl hr) ⟨ht, .cons (.ops _ _ _ ?_) hi, hd, hrn⟩
      apply List.ext_getElem
      · simp
      · intro i h1 h2
        simp at h1
        simp
    | true =>
      cases h1 : drawOk ops with
      | false => rw [h1] at h; cases h
      | true =>
        rw [h1] at h
        cases h2 : Nat.ble (Nat.add H.nx (countAlloc C ops.toList)) HN with
        | false => rw [h2] at h; cases h
        | true =>
          rw [h2] at h
          change (match drawLoop C run fi ops ops.toList 0 ⟨T, ⟨H.t, Nat.add H.nx (countAlloc C ops.toList)⟩, [], [], [], H.nx⟩ with
            | .ok T H => run fi T k ds H
            | .no r => noOk r) = .ok v H' at h
          split at h
          · rename_i T1 H1 hdl
            obtain ⟨t, hs⟩ := st_draw (P := C.P) (w := w) (fn := fi.fn) (A := A) (its := its) (dl := dl) (r := r) (cs := cs) (id := id) (ops := ops) ok.mixed
            have hp0 := Post.drew hr (w.drawn + 1)
            obtain ⟨E1, w1, A1, h3, h4, h5⟩ := hdraw run hrun fi ops T H T1 H1 h1 h2 hdl E _ A its dl r cs t hp0.hr ht
            have hp := hp0.trans h5
            have le := hp.le hr
            refine go_on hrun h hr ((hs.trans h3).trans (st_todo ?_)) hp ⟨h4, hi, hd.mono le, hrn.mono le⟩
            simp [stepG, stepG.exec, fr0]
          · rename_i q hq
            cases q <;> cases h
  | rangeFunc x ps a b => exact rangeA_sound ok hrun h hr ht hi hd hrn cs
theorem exec_sound (ok : CxOk C) (hdraw : DrawOk C) : ∀ n, RunOk C.P (exec C n)
  | 0 => fun fi T todo ds H v H' h => by cases h
  | n + 1 => fun fi T todo ds H v H' h E w A its dl r cs hr hf => by
    have ih := exec_sound ok hdraw n
    change stepA C (exec C n) fi T todo ds H = .ok v H' at h
    obtain ⟨ht, hi, hd, hrn⟩ := hf
    cases hi with
    | nil => exact leaveA_sound ok h hr ht hd hrn .done cs
    | cons hai hi =>
      rename_i a i k m
      change stepI C (exec C n) fi T k ds H a = .ok v H' at h
      cases hai with
      | code c => exact stepC_sound ok hdraw ih h hr ht hi hd hrn cs
      | inBlock j => exact go_on ih h hr (st_todo (by simp [stepG, stepG.exec, fr0])) (Post.refl hr) ⟨ht, hi, hd, hrn⟩
      | inScope b => exact go_on ih h hr (st_todo (by simp [stepG, stepG.exec, fr0])) (Post.refl hr) ⟨ht, hi, hd, hrn⟩
      | inLoop b => exact go_on ih h hr (st_todo (by simp [stepG, stepG.exec, fr0])) (Post.refl hr) ⟨ht, .cons (.code b) (.cons (.inLoop b) hi), hd, hrn⟩
      | ops rest all is his => exact stepO_sound ok ih h hr ht hi hd hrn his cs
      | beginRound =>
        change beginI (exec C n) fi T k ds H = .ok v H' at h
        unfold beginI at h
        cases hq : fi.rnd with
        | none => rw [hq] at h; cases h
        | some l =>
          rw [hq] at h
          cases r with
          | none => rw [hq] at hrn; exact hrn.elim
          | some x =>
            have hx : E.ν l = some x := by rw [hq] at hrn; exact hrn
            exact beginA_sound ok ih h hr ht hi hd hrn hx cs
end
end Go.Ev
