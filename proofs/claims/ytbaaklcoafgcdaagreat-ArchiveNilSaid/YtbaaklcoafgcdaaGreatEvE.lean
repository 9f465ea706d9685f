import Derived.Test.YtbaaklcoafgcdaaGreatEvD
set_option linter.unusedVariables false
set_option linter.unusedSimpArgs false
namespace Go.Ev
/-! ### Frames -/
inductive ItR : AItem → Item → Prop
  | code (c : Code) : ItR (.code c) (.code c)
  | inBlock (i : Nat) : ItR (.inBlock i) (.inBlock i)
  | inLoop (b : Code) : ItR (.inLoop b) (.inLoop b)
  | inScope (b : Code) : ItR (.inScope b) (.inScope b)
  | ops (rest : List Oper) (all : Array Oper) (is : List Nat) (h : is.map (fun i => all[i]?) = rest.map some) : ItR (.ops rest all) (.inRegion all is)
  | beginRound : ItR .beginRound .beginRound
inductive ItsR : List AItem → List Item → Prop
  | nil : ItsR [] []
  | cons {a i l m} (h : ItR a i) (t : ItsR l m) : ItsR (a :: l) (i :: m)
inductive DsR (E : Env) : List Nat → List Deferred → Prop
  | nil : DsR E [] []
  | cons {d b l m} (h : E.ν d = some b) (t : DsR E l m) : DsR E (d :: l) ({ target := .collected b, args := #[] } :: m)
theorem DsR.mono {E E' : Env} (le : E.le E') : ∀ {l m}, DsR E l m → DsR E' l m
  | _, _, .nil => .nil
  | _, _, .cons h t => .cons (le.m _ _ h).1 (t.mono le)
def RnR (E : Env) : Option Nat → Option Nat → Prop
  | none, none => True
  | some l, some b => E.ν l = some b
  | _, _ => False
theorem RnR.mono {E E' : Env} (le : E.le E') {a b : Option Nat} (h : RnR E a b) : RnR E' a b := by
  cases a <;> cases b <;> first | trivial | exact h.elim | exact (le.m _ _ h).1
def fr0 (fn : FuncId) (A : Array Value) (its : List Item) (dl : List Deferred) (r : Option Nat) : Frame :=
  { fn, tmps := A, todo := its, defers := dl, mode := .run, kind := .normal, roundOf := r }
structure FR (E : Env) (fi : FI) (T : Tm) (todo : List AItem) (ds : List Nat) (A : Array Value) (its : List Item) (dl : List Deferred) (r : Option Nat) : Prop where
  t : TR E fi.n T A
  i : ItsR todo its
  d : DsR E ds dl
  r : RnR E fi.rnd r
theorem FR.mono {E E' : Env} {fi : FI} {T : Tm} {todo : List AItem} {ds : List Nat} {A : Array Value} {its : List Item} {dl : List Deferred} {r : Option Nat} (h : FR E fi T todo ds A its dl r) (le : E.le E') : FR E' fi T todo ds A its dl r :=
  ⟨h.t.mono le, h.i, h.d.mono le, h.r.mono le⟩
/-- how a frame ends: a function's, ready to return; a round's, returned -/
def Ends (P : Program) (r : Option Nat) (fr : Frame) (cs : List Frame) (w : World) (v : Value) (w' : World) : Prop :=
  match r with
  | none => ∃ fr', Steps P (lone fr cs w) (lone fr' cs w') ∧ fr'.fn = fr.fn ∧ fr'.leaving P w' (.returned v)
  | some _ => ∀ c cs', cs = c :: cs' → Steps P (lone fr cs w) (lone (c.finish v) cs' w')
theorem Ends.to {P : Program} {r : Option Nat} {fr c : Frame} {cs : List Frame} {w w' : World} {v : Value} (h : Ends P r fr (c :: cs) w v w') : Steps P (lone fr (c :: cs) w) (lone (c.finish v) cs w') := by
  cases r with
  | none => obtain ⟨fr', h1, _, h2⟩ := h; exact h1.trans (.one (step_leave_returned h2))
  | some l => exact h c cs rfl
theorem Ends.after {P : Program} {r : Option Nat} {fr fr1 : Frame} {cs : List Frame} {w w1 w' : World} {v : Value} (h : Steps P (lone fr cs w) (lone fr1 cs w1)) (hf : fr1.fn = fr.fn) (k : Ends P r fr1 cs w1 v w') : Ends P r fr cs w v w' := by
  cases r with
  | none => obtain ⟨fr', h1, h2, h3⟩ := k; exact ⟨fr', h.trans h1, h2.trans hf, h3⟩
  | some l => exact fun c cs' e => h.trans (k c cs' e)
/-- what a run promises -/
def Good (P : Program) (fi : FI) (T : Tm) (todo : List AItem) (ds : List Nat) (H : AHp) (v : AVal) (H' : AHp) : Prop :=
  ∀ (E : Env) (w : World) (A : Array Value) (its : List Item) (dl : List Deferred) (r : Option Nat) (cs : List Frame), HR P E H w → FR E fi T todo ds A its dl r →
    ∃ E' w' u, Ends P r (fr0 fi.fn A its dl r) cs w u w' ∧ gam E' v = some u ∧ Post P E H w E' H' w'
def RunOk (P : Program) (run : Run) : Prop := ∀ fi T todo ds H v H', run fi T todo ds H = .ok v H' → Good P fi T todo ds H v H'
section
variable {C : Cx} {E : Env} {H : AHp} {w : World} {P : Program}
/-- one step to another state of the same frame, and on -/
theorem go_on {run : Run} (hrun : RunOk P run) {fi : FI} {T1 : Tm} {todo1 : List AItem} {ds1 : List Nat} {H H1 : AHp} {v : AVal} {H' : AHp} (h : run fi T1 todo1 ds1 H1 = .ok v H')
    {E E1 : Env} {w w1 : World} {A A1 : Array Value} {its its1 : List Item} {dl dl1 : List Deferred} {r : Option Nat} {cs : List Frame} (hr : HR P E H w)
    (hs : Steps P (lone (fr0 fi.fn A its dl r) cs w) (lone (fr0 fi.fn A1 its1 dl1 r) cs w1)) (hp : Post P E H w E1 H1 w1) (hf : FR E1 fi T1 todo1 ds1 A1 its1 dl1 r) :
    ∃ E' w' u, Ends P r (fr0 fi.fn A its dl r) cs w u w' ∧ gam E' v = some u ∧ Post P E H w E' H' w' := by
  obtain ⟨E', w', u, h1, h2, h3⟩ := hrun _ _ _ _ _ _ _ h E1 w1 A1 its1 dl1 r cs hp.hr hf
  exact ⟨E', w', u, h1.after hs rfl, h2, hp.trans h3⟩
theorem st_todo {fn : FuncId} {A : Array Value} {its its1 : List Item} {dl : List Deferred} {r : Option Nat} {cs : List Frame}
    (h : (stepG P true { frame := fr0 fn A its dl r, callers := cs, status := .running, dying := none } w).bare = .go { frame := fr0 fn A its1 dl r, callers := cs, status := .running, dying := none } w) :
    Steps P (lone (fr0 fn A its dl r) cs w) (lone (fr0 fn A its1 dl r) cs w) := .one (step_lone_go h)
theorem st_op {fn : FuncId} {A : Array Value} {its : List Item} {dl : List Deferred} {r : Option Nat} {cs : List Frame} {ops : Array Oper} {i : Nat} {is : List Nat} {o : Oper}
    (ho : ops[i]? = some o) (hw : Region.wanted o (yielded ops A) = true) (hnd : ∀ c, o.op ≠ .defer c) :
    stepG P true { frame := fr0 fn A (.inRegion ops (i :: is) :: its) dl r, callers := cs, status := .running, dying := none } w =
      stepG.apply P true (fr0 fn A (.inRegion ops (i :: is) :: its) dl r) cs none (execOp (evalA A) o) w := by
  have he : (fr0 fn A (.inRegion ops (i :: is) :: its) dl r).eval = evalA A := frame_eval _
  simp only [fr0] at he ⊢
  simp only [stepG, stepG.exec, ho, Option.map_some, hw, Option.getD_some, if_true, stepG.oper, Frame.oper?]
  cases r with
  | none => simp only [he]
  | some l =>
    cases hop : o.op <;> first | (simp only [he]; done) | (exfalso; exact hnd _ hop)
def putV (A : Array Value) (d : Option Tmp) (v : Value) : Array Value := match d with
  | some d => A.setIfInBounds d v
  | none => A
theorem finish_op {fn : FuncId} {A : Array Value} {its : List Item} {dl : List Deferred} {r : Option Nat} {ops : Array Oper} {i : Nat} {is : List Nat} {o : Oper} (ho : ops[i]? = some o) (v : Value) :
    (fr0 fn A (.inRegion ops (i :: is) :: its) dl r).finish v = fr0 fn (putV A o.dst v) (.inRegion ops is :: its) dl r := by
  simp only [Frame.finish, fr0, ho, Option.bind_some]
  cases o.dst <;> rfl
theorem st_value {fn : FuncId} {A : Array Value} {its : List Item} {dl : List Deferred} {r : Option Nat} {cs : List Frame} {ops : Array Oper} {i : Nat} {is : List Nat} {o : Oper} {v : Value} {w' : World}
    (ho : ops[i]? = some o) (hw : Region.wanted o (yielded ops A) = true) (hnd : ∀ c, o.op ≠ .defer c) (hx : (execOp (evalA A) o).run P w = .ok (.value v) w') :
    Steps P (lone (fr0 fn A (.inRegion ops (i :: is) :: its) dl r) cs w) (lone (fr0 fn (putV A o.dst v) (.inRegion ops is :: its) dl r) cs w') := by
  refine .one (step_lone_go ?_)
  rw [st_op ho hw hnd, ← finish_op ho]
  simp [stepG.apply, hx]
theorem st_skip {fn : FuncId} {A : Array Value} {its : List Item} {dl : List Deferred} {r : Option Nat} {cs : List Frame} {ops : Array Oper} {i : Nat} {is : List Nat} {o : Oper} {w' : World}
    (ho : ops[i]? = some o) (hw : Region.wanted o (yielded ops A) = true) (hnd : ∀ c, o.op ≠ .defer c) (hx : (execOp (evalA A) o).run P w = .ok .skip w') :
    Steps P (lone (fr0 fn A (.inRegion ops (i :: is) :: its) dl r) cs w) (lone (fr0 fn (putV A o.dst undef) (.inRegion ops is :: its) dl r) cs w') := by
  refine .one (step_lone_go ?_)
  rw [st_op ho hw hnd, ← finish_op ho]
  simp [stepG.apply, hx]
theorem st_pass {fn : FuncId} {A : Array Value} {its : List Item} {dl : List Deferred} {r : Option Nat} {cs : List Frame} {ops : Array Oper} {i : Nat} {is : List Nat} {o : Oper}
    (ho : ops[i]? = some o) (hw : Region.wanted o (yielded ops A) = false) :
    Steps P (lone (fr0 fn A (.inRegion ops (i :: is) :: its) dl r) cs w) (lone (fr0 fn (putV A o.dst undef) (.inRegion ops is :: its) dl r) cs w) := by
  refine .one (step_lone_go ?_)
  rw [← finish_op ho]
  simp [stepG, stepG.exec, fr0, ho, hw]
theorem st_enter {fn f : FuncId} {A vs : Array Value} {its : List Item} {dl : List Deferred} {r : Option Nat} {cs : List Frame} {ops : Array Oper} {i : Nat} {is : List Nat} {o : Oper} {w' : World}
    (ho : ops[i]? = some o) (hw : Region.wanted o (yielded ops A) = true) (hnd : ∀ c, o.op ≠ .defer c) (hx : (execOp (evalA A) o).run P w = .ok (.enter f vs) w') :
    Steps P (lone (fr0 fn A (.inRegion ops (i :: is) :: its) dl r) cs w) (lone (Frame.enter P f vs .normal) (fr0 fn A (.inRegion ops (i :: is) :: its) dl r :: cs) w') := by
  refine .one (step_lone_go ?_)
  rw [st_op ho hw hnd]
  simp [stepG.apply, hx, fr0]
theorem st_round {fn f : FuncId} {l : Nat} {A B : Array Value} {a b : Code} {its : List Item} {dl : List Deferred} {r : Option Nat} {cs : List Frame} {ops : Array Oper} {i : Nat} {is : List Nat} {o : Oper} {w' : World}
    (ho : ops[i]? = some o) (hw : Region.wanted o (yielded ops A) = true) (hnd : ∀ c, o.op ≠ .defer c) (hx : (execOp (evalA A) o).run P w = .ok (.round l f B a b) w') :
    Steps P (lone (fr0 fn A (.inRegion ops (i :: is) :: its) dl r) cs w) (lone (fr0 f B [.code a, .beginRound, .code b] [] (some l)) (fr0 fn A (.inRegion ops (i :: is) :: its) dl r :: cs) w') := by
  refine .one (step_lone_go ?_)
  rw [st_op ho hw hnd]
  simp [stepG.apply, hx, fr0, Frame.round]
theorem enter_eq {f : FuncId} {fn : Func} {c : Code} (hf : P.funcs[f]? = some fn) (hb : fn.body = some c) (vs : Array Value) : Frame.enter P f vs .normal = fr0 f (vs ++ Array.replicate (fn.ntmps - vs.size) undef) [.code c] [] none := by
  simp [Frame.enter, fr0, hf, hb]
theorem ofList_get : ∀ (d : Nat) (l : List AVal) (i j : Nat) (t : Tm) (a : AVal), (Tr.ofList d l i t).get j = some a → (i ≤ j ∧ l[j - i]? = some a) ∨ t.get j = some a
  | d, [], i, j, t, a, h => .inr h
  | d, x :: l, i, j, t, a, h => by
    change (Tr.ofList d l (i + 1) (Tr.set d t i x)).get j = some a at h
    rcases ofList_get d l (i + 1) j _ a h with ⟨h1, h2⟩ | h
    · refine .inl ⟨by omega, ?_⟩
      have : j - i = (j - (i + 1)) + 1 := by omega
      rw [this]; simpa using h2
    · rcases Tr.set_some _ h with ⟨rfl, rfl⟩ | ⟨_, h⟩
      · exact .inl ⟨Nat.le_refl _, by simp⟩
      · exact .inr h
theorem nil_get {α : Type} (j : Nat) : (Tr.nil : Tr α).get j = none := rfl
/-- a function is entered -/
theorem enterA_sound (ok : CxOk C) {run : Run} (hrun : RunOk C.P run) {f : FuncId} {args : List AVal} {v : AVal} {H H' : AHp} (h : enterA C f args run H = .ok v H') {E : Env} {w : World} (hr : HR C.P E H w) {vs : Array Value} (hg : gams E args = some vs.toList) (cs : List Frame) :
    ∃ E' w' u, Ends C.P none (Frame.enter C.P f vs .normal) cs w u w' ∧ gam E' v = some u ∧ Post C.P E H w E' H' w' := by
  unfold enterA at h
  split at h
  · rename_i fn hfn
    split at h
    · rename_i c hc
      rw [enter_eq (ok.fs f fn hfn) hc]
      cases hle : Nat.ble (len args) fn.ntmps with
      | false => rw [hle] at h; cases h
      | true =>
        rw [hle] at h
        have hle := Nat.le_of_ble_eq_true hle
        rw [len_eq] at hle
        have hl := gams_len hg
        simp at hl
        refine hrun _ _ _ _ _ _ _ h E w _ [.code c] [] none cs hr ⟨⟨?_, fun i a hi => ?_⟩, .cons (.code c) .nil, .nil, trivial⟩
        · simp; omega
        · rcases ofList_get _ _ _ _ _ _ hi with ⟨_, h2⟩ | h2
          · obtain ⟨u, hu, hgu⟩ := gams_get hg h2
            refine ⟨u, ?_, hgu⟩
            simp at hu
            have hlt := (Array.getElem?_eq_some_iff.1 hu).1
            rw [Array.getElem?_append_left hlt]; exact hu
          · cases h2
    · cases h
  · cases h
end
end Go.Ev
