import Derived.Test.YtbaaklcoafgcdaaGreatEvF
set_option linter.unusedVariables false
set_option linter.unusedSimpArgs false
namespace Go.Ev
section
variable {C : Cx} {E : Env} {H : AHp} {w : World} {P : Program}
theorem forceNat_eq {β : Type} (m : Nat) (k : Nat → β) : forceNat m k = k m := by cases m <;> rfl
theorem forceInt_eq {β : Type} (m : Int) (k : Int → β) : forceInt m k = k m := by
  cases m with
  | ofNat m => exact forceNat_eq m fun m => k (.ofNat m)
  | negSucc m => exact forceNat_eq m fun m => k (.negSucc m)
theorem forceV_eq {β : Type} (v : AVal) (k : AVal → β) : forceV v k = k v := by
  cases v
  case bool b => cases b <;> rfl
  case int i n => exact forceInt_eq n fun n => k (.int i n)
  case flt i n => exact forceNat_eq n fun n => k (.flt i n)
  case cplx i n m =>
    show forceNat n (fun n => forceNat m fun m => k (.cplx i n m)) = _
    rw [forceNat_eq, forceNat_eq]
  all_goals rfl
theorem putT_some {β : Type} {n : Nat} {T : Tm} {d : Option Tmp} {v : AVal} {no : β} {k : Tm → β} : putT n T d v no k = no ∨ ∃ T1, putT n T d v no k = k T1 ∧ ∀ {E : Env} {A : Array Value} {u : Value}, TR E n T A → gam E v = some u → TR E n T1 (putV A d u) := by
  cases d with
  | none => exact .inr ⟨T, rfl, fun ht _ => ht⟩
  | some d =>
    change cnd (Nat.ble (Nat.succ d) n) (forceV v fun v => k (Tr.set TD T d v)) no = no ∨ ∃ T1, cnd (Nat.ble (Nat.succ d) n) (forceV v fun v => k (Tr.set TD T d v)) no = _ ∧ _
    cases h : Nat.ble (Nat.succ d) n with
    | false => exact .inl rfl
    | true => exact .inr ⟨Tr.set TD T d v, forceV_eq v _, fun ht hg => ht.set (Nat.le_of_ble_eq_true h) hg⟩
theorem wanted_sound {n : Nat} {T : Tm} {A : Array Value} (ht : TR E n T A) {all : Array Oper} {o : Oper} {b : Bool} (h : wantedA T all o.guard = some b) : Region.wanted o (yielded all A) = b := by
  unfold wantedA at h
  unfold Region.wanted
  cases hg : o.guard with
  | none => rw [hg] at h; cases h; rfl
  | some p =>
    obtain ⟨j, want⟩ := p
    rw [hg] at h
    dsimp only at h ⊢
    unfold guardA at h
    rw [nth_eq] at h
    unfold yielded
    have e : all.toList[j]? = all[j]? := by simp
    rw [e] at h
    cases hq : all[j]? with
    | none => rw [hq] at h; cases h; rfl
    | some q =>
      rw [hq] at h
      dsimp only at h ⊢
      cases hd : q.dst with
      | none => rw [hd] at h; cases h; simp [hd]
      | some d =>
        rw [hd] at h
        dsimp only at h
        simp only [Option.bind_some, hd]
        cases hT : T.get d with
        | none => rw [hT] at h; cases h
        | some a =>
          rw [hT] at h
          obtain ⟨v, hv, hgv⟩ := ht.2 d a hT
          rw [hv]
          cases a
          case bool x =>
            simp only [gam] at hgv; cases hgv
            change some (eqB x want) = some b at h
            injection h with h
            rw [eqB_eq] at h
            show (some x == some want) = b
            rw [← h]; rfl
          case opq => cases h
          all_goals
            change some false = some b at h
            injection h with h
            subst h
            have : ∀ x, v ≠ .bool x := by
              intro x e
              subst e
              first
                | (simp only [gam] at hgv; cases hgv; done)
                | (obtain ⟨_, he, _⟩ := ptr_gam' hgv; cases he)
                | (obtain ⟨_, _, he, _⟩ := slice_gam hgv; cases he)
                | (obtain ⟨_, he, _⟩ := map_gam hgv; cases he)
                | (obtain ⟨_, _, he, _⟩ := func_gam hgv; cases he)
                | (obtain ⟨_, he⟩ := iface_gam hgv; cases he)
                | (obtain ⟨_, he, _⟩ := agg_gam hgv; cases he)
                | (obtain ⟨_, he, _⟩ := tuple_gam hgv; cases he)
                | (simp only [gam] at hgv; split at hgv <;> first | cases hgv | (obtain ⟨_, hgv⟩ := bif_some hgv; cases hgv))
            cases v <;> first | rfl | exact absurd rfl (this _)
theorem gam_undef : gam E undefA = some undef := rfl
theorem allLt_cons {n p : Nat} {l : List Nat} (h : allLt n (p :: l) = true) : p < n ∧ allLt n l = true := by
  change cnd (Nat.ble (Nat.succ p) n) (allLt n l) false = true at h
  cases hb : Nat.ble (Nat.succ p) n with
  | false => rw [hb] at h; cases h
  | true => rw [hb] at h; exact ⟨Nat.le_of_ble_eq_true hb, h⟩
theorem setParams_sound {n : Nat} : ∀ (ps : List Tmp) (as : List AVal) (vs : List Value) (T : Tm) (A : Array Value), TR E n T A → allLt n ps = true → gams E as = some vs → ps.length = as.length →
    TR E n (setParams ps as T) ((ps.zip vs).foldl (fun tmps (x : Tmp × Value) => tmps.setIfInBounds x.1 x.2) A)
  | [], as, vs, T, A, ht, _, _, _ => ht
  | p :: ps, [], vs, T, A, ht, _, _, hl => by simp at hl
  | p :: ps, a :: as, vs, T, A, ht, hlt, hg, hl => by
    obtain ⟨x, y, hx, hy, rfl⟩ := gams_cons.1 hg
    obtain ⟨h1, h2⟩ := allLt_cons hlt
    exact setParams_sound ps as y _ _ (ht.set h1 hx) h2 hy (by simpa using hl)
theorem roundA_sound (ok : CxOk C) {run : Run} (hrun : RunOk C.P run) {l : Nat} {args : List AVal} {v : AVal} {H' : AHp} (h : roundA C run l args H = .ok v H') (hr : HR C.P E H w) {x : Nat} (hx : E.ν l = some x) {vs : Array Value} (hg : gams E args = some vs.toList) (cs : List Frame) :
    ∃ f B a b, (Instr.yield x vs).run C.P w = .ok (.round x f B a b) w ∧ ∃ E' w' u, Ends C.P (some x) (fr0 f B [.code a, .beginRound, .code b] [] (some x)) cs w u w' ∧ gam E' v = some u ∧ Post C.P E H w E' H' w' := by
  unfold roundA at h
  split at h
  · rename_i st p f n T ps a b d hl
    obtain ⟨x', A, y, hx', ht, hy, hw⟩ := loop_of hr hl
    rw [hx] at hx'; cases hx'
    cases h1 : Nat.beq (len args) (len ps.toList) with
    | false => rw [h1] at h; cases h
    | true =>
      rw [h1] at h
      cases h2 : allLt n ps.toList with
      | false => rw [h2] at h; cases h
      | true =>
        rw [h2] at h
        have h1 := beq_iff.1 h1
        rw [len_eq, len_eq] at h1
        have hgl := gams_len hg
        have hsz : ¬ vs.size ≠ ps.size := by simp at hgl h1; omega
        have hT := setParams_sound ps.toList args vs.toList T A ht h2 hg h1.symm
        refine ⟨f, (ps.zip vs).foldl (fun tmps (t, a) => tmps.setIfInBounds t a) A, a, b, ?_, hrun _ _ _ _ _ _ _ h E w _ _ [] (some x) cs hr ⟨?_, .cons (.code a) (.cons .beginRound (.cons (.code b) .nil)), .nil, hx⟩⟩
        · simp only [Instr.yield, Sem.run_bind, run_getLoop hw, Result.andThen_ok, hsz, if_false, Sem.run_pure]
        · rw [← Array.foldl_toList, Array.toList_zip]
          exact hT
  · cases h
/-- one loud operation, its calls run -/
theorem loudRun_sound (ok : CxOk C) {run : Run} (hrun : RunOk C.P run) {T : Tm} {o : Oper} {v : AVal} {H' : AHp} (h : loudRun C run T H o = .ok v H') (hl : opA C T H o.op = .loud) (hr : HR C.P E H w) {n : Nat} {A : Array Value} (ht : TR E n T A)
    {fn : FuncId} {its : List Item} {dl : List Deferred} {r : Option Nat} {cs : List Frame} {ops : Array Oper} {i : Nat} {is : List Nat} (ho : ops[i]? = some o) (hw : Region.wanted o (yielded ops A) = true) :
    ∃ E' w' u, Steps C.P (lone (fr0 fn A (.inRegion ops (i :: is) :: its) dl r) cs w) (lone (fr0 fn (putV A o.dst u) (.inRegion ops is :: its) dl r) cs w') ∧ gam E' v = some u ∧ Post C.P E H w E' H' w' := by
  have hs := loudA_sound ok hr ht o hl
  unfold loudRun at h
  have hnd : loudA C T H o.op ≠ .no → ∀ c, o.op ≠ .defer c := by
    intro hne c e
    rw [e] at hne
    exact hne rfl
  cases hx : loudA C T H o.op with
  | no => rw [hx] at h; cases h
  | val v1 H1 =>
    rw [hx] at h hs hnd
    injection h with h1 h2
    subst h1 h2
    obtain ⟨E', w', u, h3, h4, h5⟩ := hs
    exact ⟨E', w', u, st_value ho hw (hnd nofun) h3, h4, h5⟩
  | skip H1 =>
    rw [hx] at h hs hnd
    injection h with h1 h2
    subst h1 h2
    obtain ⟨E', w', h3, h5⟩ := hs
    exact ⟨E', w', undef, st_skip ho hw (hnd nofun) h3, gam_undef, h5⟩
  | enter f args =>
    rw [hx] at h hs hnd
    obtain ⟨vs, h3, h4⟩ := hs
    obtain ⟨E', w', u, h5, h6, h7⟩ := enterA_sound ok hrun h hr h4 (fr0 fn A (.inRegion ops (i :: is) :: its) dl r :: cs)
    refine ⟨E', w', u, (st_enter ho hw (hnd nofun) h3).trans ?_, h6, h7⟩
    rw [← finish_op ho]
    exact h5.to
  | round l args =>
    rw [hx] at h hs hnd
    obtain ⟨x, vs, h3, h4, h5⟩ := hs
    obtain ⟨f, B, a, b, h6, E', w', u, h7, h8, h9⟩ := roundA_sound ok hrun h hr h3 h4 (fr0 fn A (.inRegion ops (i :: is) :: its) dl r :: cs)
    refine ⟨E', w', u, (st_round ho hw (hnd nofun) (h5.trans h6)).trans ?_, h8, h9⟩
    rw [← finish_op ho]
    exact h7.to
  | split f args => rw [hx] at hs; exact hs.elim
theorem noDefer {T : Tm} {o : Oper} (h : opA C T H o.op ≠ .loud) : ∀ c, o.op ≠ .defer c := by
  intro c e
  rw [e] at h
  exact h rfl
/-- an operation that makes a block: the block has the next number -/
theorem makes_post (hr : HR P E H w) {ao : AObj} {mk : Nat → AVal} {u : Value} {w' : World} (h : Makes P E w ao mk u w') : ∃ E', gam E' (mk H.nx) = some u ∧ Post P E H w E' (H.new ao) w' := by
  obtain ⟨ob, c, d, rfl, hh⟩ := h.out
  obtain ⟨h1, h2⟩ := hh H.nx (hr.fresh _ (Nat.le_refl _)).1
  have hd := Post.drew hr d
  exact ⟨_, h2, hd.trans (Post.alloc (w := { w with drawn := d }) hd.hr h1)⟩
theorem doOp_sound (ok : CxOk C) {run : Run} (hrun : RunOk C.P run) {fi : FI} {T : Tm} {k : List AItem} {ds : List Nat} {o : Oper} {v : AVal} {H' : AHp} {rest : List Oper} {all : Array Oper}
    (h : doOp C run fi T (.ops rest all :: k) ds H o = .ok v H') (hr : HR C.P E H w) {A : Array Value} {its : List Item} {dl : List Deferred} {r : Option Nat} (ht : TR E fi.n T A) (hi : ItsR k its) (hd : DsR E ds dl) (hrn : RnR E fi.rnd r)
    {i : Nat} {is : List Nat} (ho : all[i]? = some o) (his : is.map (fun i => all[i]?) = rest.map some) (hw : Region.wanted o (yielded all A) = true) (cs : List Frame) :
    ∃ E' w' u, Ends C.P r (fr0 fi.fn A (.inRegion all (i :: is) :: its) dl r) cs w u w' ∧ gam E' v = some u ∧ Post C.P E H w E' H' w' := by
  have fin : ∀ {a : AVal} {E1 : Env} {H1 : AHp} {w1 : World} {u1 : Value} {no : Nat} , putT fi.n T o.dst a (.bad fi.fn no (some o)) (fun T => run fi T (.ops rest all :: k) ds H1) = .ok v H' →
      Steps C.P (lone (fr0 fi.fn A (.inRegion all (i :: is) :: its) dl r) cs w) (lone (fr0 fi.fn (putV A o.dst u1) (.inRegion all is :: its) dl r) cs w1) → gam E1 a = some u1 → Post C.P E H w E1 H1 w1 →
      ∃ E' w' u, Ends C.P r (fr0 fi.fn A (.inRegion all (i :: is) :: its) dl r) cs w u w' ∧ gam E' v = some u ∧ Post C.P E H w E' H' w' := by
    intro a E1 H1 w1 u1 no hp hs hg hpost
    rcases putT_some (n := fi.n) (T := T) (d := o.dst) (v := a) (no := R.bad fi.fn no (some o)) (k := fun T => run fi T (.ops rest all :: k) ds H1) with h1 | ⟨T1, h1, h2⟩
    · rw [h1] at hp; cases hp
    · rw [h1] at hp
      have le := hpost.le hr
      exact go_on hrun hp hr hs hpost ⟨h2 (ht.mono le) hg, .cons (.ops rest all is his) hi, hd.mono le, hrn.mono le⟩
  unfold doOp at h
  cases hx : opA C T H o.op with
  | pure a =>
    rw [hx] at h
    cases a with
    | none => cases h
    | some a =>
      obtain ⟨z, hz, hg⟩ := opA_sound ok hr ht (.inl hx)
      exact fin h (st_value ho hw (noDefer (by rw [hx]; nofun)) hz) hg (Post.refl hr)
  | read a =>
    rw [hx] at h
    cases a with
    | none => cases h
    | some a =>
      obtain ⟨z, hz, hg⟩ := opA_sound ok hr ht (.inr hx)
      exact fin h (st_value ho hw (noDefer (by rw [hx]; nofun)) hz) hg (Post.refl hr)
  | alloc a =>
    rw [hx] at h
    cases a with
    | none => cases h
    | some p =>
      change cnd (Nat.ble (Nat.succ H.nx) HN) (putT fi.n T o.dst (p.2 H.nx) (.bad fi.fn 40 (some o)) fun T => run fi T (.ops rest all :: k) ds (H.new p.1)) (.bad fi.fn 43 (some o)) = .ok v H' at h
      cases hb : Nat.ble (Nat.succ H.nx) HN with
      | false => rw [hb] at h; cases h
      | true =>
        rw [hb] at h
        obtain ⟨u, w1, hz, hm⟩ := alloc_sound ok hr ht hx
        obtain ⟨E1, hg, hpost⟩ := makes_post hr hm
        exact fin h (st_value ho hw (noDefer (by rw [hx]; nofun)) hz) hg hpost
  | loud =>
    rw [hx] at h
    change doLoud C run fi T (.ops rest all :: k) ds H o = .ok v H' at h
    unfold doLoud at h
    cases hl : loudRun C run T H o with
    | ok v1 H1 =>
      rw [hl] at h
      obtain ⟨E1, w1, u1, h1, h2, h3⟩ := loudRun_sound (fn := fi.fn) (its := its) (dl := dl) (r := r) (cs := cs) (is := is) ok hrun hl hx hr ht ho hw
      exact fin h h1 h2 h3
    | out => rw [hl] at h; cases h
    | bad a b c => rw [hl] at h; cases h
end
end Go.Ev
