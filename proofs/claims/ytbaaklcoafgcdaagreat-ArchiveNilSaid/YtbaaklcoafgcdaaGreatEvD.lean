import Derived.Test.YtbaaklcoafgcdaaGreatEvB
set_option linter.unusedVariables false
set_option linter.unusedSimpArgs false
namespace Go.Ev
section
variable {C : Cx} {E : Env} {H : AHp} {w : World} {n : Nat} {T : Tm} {A : Array Value}
theorem copyA_sound (ok : CxOk C) (hr : HR C.P E H w) {st t' : TypeId} {ts : Array TypeId} (h0 : ts[0]? = some st) {d x v : AVal} {H' : AHp} (h : copyA C H st d x = some (v, H'))
    {ud ux : Value} (hud : gam E d = some ud) (hux : gam E x = some ux) : ∃ E' w' u, (Builtin.copy_ ts t' #[ud, ux]).run C.P w = .ok u w' ∧ gam E' v = some u ∧ Post C.P E H w E' H' w' := by
  unfold copyA at h
  split at h
  · rename_i base dn dc
    split at h
    · rename_i a m ac
      split at h
      · rename_i es hes
        obtain ⟨hst, hsz, hpos⟩ := elem_und hes
        split at h
        · rename_i cs hcs
          rw [minN_eq] at hcs h
          obtain ⟨V, hV, hgV⟩ := firstCells_sound ok hr hux (Nat.min_le_left m dn) hcs
          obtain ⟨q, z, rfl, _⟩ := slice_gam hux
          obtain ⟨p, y, rfl, hlim, hcase⟩ := slice_cap hud
          have hV' : (Builtin.firstCells es.2 (Nat.min m dn) (.slice q m z)).run C.P w = .ok V w := hV
          have hrun : ∀ w', (match p with | some a => (storeCells a V.toList : Sem Unit) | none => pure ()).run C.P w = .ok () w' → (Builtin.copy_ ts t' #[.slice p dn y, .slice q m z]).run C.P w = .ok (goInt ((Nat.min m dn : Nat) : Int)) w' := by
            intro w' hw'
            simp only [Builtin.copy_, h0, List.getElem?_toArray, List.getElem?_cons_zero, List.getElem?_cons_succ, Sem.run_bind, run_und ok hst, Result.andThen_ok, Builtin.lenOf, Sem.run_pure, run_size ok hsz, hV']
            cases p with
            | none => simp at hw'; subst hw'; simp
            | some a => simp only at hw'; simp [hw']
          unfold withinA at h
          split at h
          · have hp0 : p = none := by
              cases p with
              | none => rfl
              | some _ => obtain ⟨_, _, he, hn⟩ := slice_gam hud; cases he; cases hn
            subst hp0
            split at h
            · injection h with h; injection h with h1 h2
              subst h1 h2
              exact ⟨E, w, _, hrun w rfl, rfl, Post.refl hr⟩
            · cases h
          · rename_i p0
            unfold setOk at h
            split at h
            · rename_i H1 hst1
              injection h with h; injection h with h1 h2
              subst h1 h2
              by_cases hedge : ∀ d k s, dc ≠ .edge d k s
              · obtain ⟨p', m', he, hp⟩ := slice_ptr hud hedge
                cases he
                obtain ⟨b, o⟩ := p0
                simp only [ptrOf] at hp
                cases hb : E.ν b with
                | none => simp [hb] at hp
                | some x0 =>
                  simp [hb] at hp; subst hp
                  obtain ⟨w', h2, h3⟩ := storeCs_sound ok hr hst1 hb hgV
                  refine ⟨E, w', _, hrun w' ?_, rfl, h3⟩
                  exact h2
              · have : ∃ d k z, dc = .edge d k z := by
                  cases dc
                  case edge d k z => exact ⟨d, k, z, rfl⟩
                  all_goals exact absurd nofun hedge
                obtain ⟨d, k, z', rfl⟩ := this
                obtain ⟨rfl, _⟩ := edge_gam hud
                -- nothing is copied
                have hc0 := sliceCells_len hcs
                rw [Nat.min_zero, Nat.zero_mul] at hc0
                have hcn : cs = [] := List.length_eq_zero_iff.1 hc0
                subst hcn
                have hV0 : V.toList = [] := by have h9 : some ([] : List Value) = some V.toList := hgV; injection h9 with h9; exact h9.symm
                unfold storeCs at hst1
                split at hst1
                · rename_i c e tl st' hgb
                  obtain ⟨h5, h6⟩ := cnd_some hst1
                  obtain ⟨_, h7⟩ := cnd_some h6
                  injection h7 with h7
                  have h5 := Nat.le_of_ble_eq_true h5
                  rw [len_eq, len_eq] at h5
                  have hset : setAt (p0.2 + 0) [] c = c := by
                    rw [setAt_eq _ _ _ (by simpa using h5)]; simp
                  have hset' : setAt (Nat.add p0.2 0) [] c = c := hset
                  rw [hset'] at h7
                  subst h7
                  obtain ⟨x', ob, hx', hw, hor⟩ := hr.obj _ _ hgb rfl
                  refine ⟨E, w, _, hrun w ?_, rfl, Post.upd hr hgb rfl hx' hw (fun _ _ => rfl) rfl (fun _ => hor) rfl rfl rfl⟩
                  rw [hV0]
                  cases p <;> rfl
                · cases hst1
            · cases h
        · cases h
      · cases h
    · cases h
  · cases h
theorem sameConv_sound (ok : CxOk C) (hr : HR C.P E H w) {s d : TypeId} {x v : AVal} {H' : AHp} (hk : convKind C s d = .same) (h : sameConv C H s d x = some (v, H')) {u : Value} (hu : gam E x = some u) :
    ∃ w', (Go.convert s d u).run C.P w = .ok u w' ∧ gam E v = some u ∧ Post C.P E H w E H' w' := by
  unfold sameConv at h
  split at h
  · rename_i p m c
    split at h
    · rename_i e hs
      split at h
      · rename_i he
        obtain ⟨hsd, h7⟩ := cnd_some h
        clear h
        obtain rfl := beq_iff.1 hsd
        split at h7
        · rename_i cs e' tl st' hgb
          injection h7 with h7; injection h7 with h1 h2
          subst h1 h2
          obtain ⟨x', R, fz, vs, rest, hx', hw, hfz, hR, hg, hrest, hRsz⟩ := row_of hr hgb
          have hbase : ∃ a y, u = .slice (some a) m y ∧ a.block = x' := by
            by_cases hedge : ∀ d k s, c ≠ .edge d k s
            · obtain ⟨q, y, rfl, hq⟩ := slice_ptr hu hedge
              obtain ⟨b, o⟩ := p
              simp only [ptrOf] at hq
              dsimp only at hx'
              simp [hx'] at hq
              subst hq
              exact ⟨_, y, rfl, rfl⟩
            · have : ∃ d k z, c = .edge d k z := by
                cases c
                case edge d k z => exact ⟨d, k, z, rfl⟩
                all_goals exact absurd nofun hedge
              obtain ⟨dd, k, z, rfl⟩ := this
              obtain ⟨rfl, _⟩ := edge_gam hu
              obtain ⟨b, o⟩ := p
              dsimp only at hx'
              simp only [gam, sliceOf, hx'] at hu
              obtain ⟨_, hu⟩ := bif_some hu
              injection hu with hu
              subst hu
              split <;> exact ⟨_, _, rfl, rfl⟩
          obtain ⟨a, y, rfl, ha⟩ := hbase
          have hsh : w.shape? a.block = some (e', R.size) := by rw [ha]; simp [World.shape?, hw]
          have hfr : w.freeze ⟨a.block, R.size, none⟩ 1 = putRow w x' R e' (R.size, R.size + 1) := by
            have hlt := heap_lt hw
            have : (w.freeze ⟨a.block, R.size, none⟩ 1).heap = (putRow w x' R e' (R.size, R.size + 1)).heap := by
              simp only [World.freeze, Nat.one_ne_zero, if_false, putRow, ha]
              apply Array.ext_getElem?
              intro i
              rw [Array.getElem?_modify]
              by_cases hi : x' = i
              · subst hi
                rw [if_pos rfl, hw]
                rcases hfz with rfl | ⟨_, rfl⟩
                · simp [hlt]
                · simp [hlt]
              · rw [if_neg hi, Array.getElem?_setIfInBounds_ne hi]
            show ({ w with heap := (w.freeze ⟨a.block, R.size, none⟩ 1).heap } : World) = _
            rw [this]; rfl
          refine ⟨putRow w x' R e' (R.size, R.size + 1), ?_, hu, Post.upd hr hgb rfl hx' (putRow_get (heap_lt hw) _ _ _) (fun y hy => putRow_ne _ _ _ hy) (by simp [putRow]) (fun _ => ⟨R, _, vs, rfl, .inr ⟨rfl, rfl⟩, hg, ?_⟩) rfl rfl rfl⟩
          · have hms : (markStringish a).run C.P w = .ok () (putRow w x' R e' (R.size, R.size + 1)) := by
              unfold markStringish
              simp only [Sem.run_bind, shape, Sem.run, Result.andThen_ok, hsh, freeze, hfr]
            simp only [Go.convert, Sem.run_bind, run_und ok hs, run_und ok he, Result.andThen_ok, beq_self_eq_true, hms, Sem.run_pure]
          · cases tl with
            | true => exact ⟨⟨rest, hR, hrest⟩, hRsz⟩
            | false => show R.toList = vs; have : rest = [] := hRsz; rw [hR, this]; simp
        · cases h7
      · cases h
    · cases h
  · cases h
/-- what the model does where 'loudA' says something -/
def LoudOk (P : Program) (E : Env) (H : AHp) (w : World) (ρ : Operand → Value) (o : Oper) : XR → Prop
  | .no => True
  | .val v H' => ∃ E' w' u, (execOp ρ o).run P w = .ok (.value u) w' ∧ gam E' v = some u ∧ Post P E H w E' H' w'
  | .skip H' => ∃ E' w', (execOp ρ o).run P w = .ok .skip w' ∧ Post P E H w E' H' w'
  | .enter f args => ∃ vs : Array Value, (execOp ρ o).run P w = .ok (.enter f vs) w ∧ gams E args = some vs.toList
  | .round l args => ∃ (x : Nat) (vs : Array Value), E.ν l = some x ∧ gams E args = some vs.toList ∧ (execOp ρ o).run P w = (Instr.yield x vs).run P w
  | .split _ _ => False
theorem xv_some {r : Option (AVal × AHp)} {v : AVal} {H' : AHp} (h : xv r = .val v H') : r = some (v, H') := by
  unfold xv at h
  split at h
  · rename_i p; cases h; rfl
  · cases h
theorem callL_sound (ok : CxOk C) (hr : HR C.P E H w) (ht : TR E n T A) {o : Oper} {c : Call} (ho : o.op = .call c) : LoudOk C.P E H w (evalA A) o (callL C T H c) := by
  have nt : ∀ i t, nth c.argTypes.toList i = some t → c.argTypes[i]? = some t := fun i t h => by rw [nth_eq] at h; simpa using h
  have vals : ∀ {r : Option (AVal × AHp)}, (∀ v H', r = some (v, H') → ∃ E' w' u, (execOp (evalA A) o).run C.P w = .ok (.value u) w' ∧ gam E' v = some u ∧ Post C.P E H w E' H' w') → LoudOk C.P E H w (evalA A) o (xv r) := by
    intro r hh
    cases r with
    | none => trivial
    | some p => exact hh p.1 p.2 rfl
  unfold callL
  split
  · rename_i b hc
    cases b
    case append =>
      refine vals fun v H' h => ?_
      obtain ⟨t, h0, h⟩ := uno_some h
      obtain ⟨u, h1, h⟩ := uno_some h
      obtain ⟨s, x, ha, h⟩ := duo_some h
      obtain ⟨us, ux, hs, hx, he⟩ := duo_gams (evs_sound ht ha)
      obtain ⟨E', w', z, hz, hg, hp⟩ := appendA_sound (t' := o.type) ok hr (nt 0 t h0) (nt 1 u h1) h hs hx
      exact ⟨E', w', z, by rw [run_builtin o c _ ho hc, arr_of he]; simp only [builtin, Sem.run_bind, hz, Result.andThen_ok, Sem.run_pure], hg, hp⟩
    case copy =>
      refine vals fun v H' h => ?_
      obtain ⟨t, h0, h⟩ := uno_some h
      obtain ⟨s, x, ha, h⟩ := duo_some h
      obtain ⟨us, ux, hs, hx, he⟩ := duo_gams (evs_sound ht ha)
      obtain ⟨E', w', z, hz, hg, hp⟩ := copyA_sound (t' := o.type) ok hr (nt 0 t h0) h hs hx
      exact ⟨E', w', z, by rw [run_builtin o c _ ho hc, arr_of he]; simp only [builtin, Sem.run_bind, hz, Result.andThen_ok, Sem.run_pure], hg, hp⟩
    case delete =>
      refine vals fun v H' h => ?_
      obtain ⟨t, h0, h⟩ := uno_some h
      obtain ⟨s, x, ha, h⟩ := duo_some h
      obtain ⟨us, ux, hs, hx, he⟩ := duo_gams (evs_sound ht ha)
      unfold setOk at h
      split at h
      · rename_i H1 hd
        injection h with h; injection h with h2 h3
        subst h2 h3
        obtain ⟨w', hz, hp⟩ := dropA_sound (t' := o.type) ok hr (nt 0 t h0) hd hs hx
        exact ⟨E, w', _, by rw [run_builtin o c _ ho hc, arr_of he]; simp only [builtin, Sem.run_bind, hz, Result.andThen_ok, Sem.run_pure], rfl, hp⟩
      · cases h
    all_goals trivial
  · trivial
  · rename_i f hc
    split
    · rename_i fa hf
      split
      · rename_i args hargs
        have hfv := ev_sound ht hf
        have hav := evs_sound ht hargs
        have hrun : ∀ fn first cap, evalA A f = .func fn first cap → (execOp (evalA A) o).run C.P w = (invoke (.fn fn cap) (first ++ c.args.map (evalA A))).run C.P w := by
          intro fn first cap he
          simp only [execOp, ho, Sem.run_bind, resolve, hc, he, Deferred.ofValue, Sem.run_pure, Result.andThen_ok]
        unfold callV
        split
        · rename_i f0 first cap
          obtain ⟨p, q, he, hp, hq⟩ := func_gam hfv
          rw [ok.ex f0]
          cases hcall : callable C f0 with
          | false => trivial
          | true =>
            refine ⟨p ++ c.args.map (evalA A) ++ q, ?_, ?_⟩
            · rw [hrun _ _ _ he]
              simp only [invoke]
              exact ok.call f0 hcall _ w
            · rw [app_eq, app_eq]
              have := gams_append hp (gams_append hav hq)
              simpa using this
        · rename_i l
          have hx : ∃ x, E.ν l = some x ∧ evalA A f = .func (.yield x) #[] #[] := by
            simp only [gam] at hfv
            split at hfv
            · rename_i x hx; injection hfv with hfv; exact ⟨x, hx, hfv.symm⟩
            · cases hfv
          obtain ⟨x, hx, he⟩ := hx
          refine ⟨x, c.args.map (evalA A), hx, by simpa using hav, ?_⟩
          rw [hrun _ _ _ he]
          simp [invoke]
        · trivial
      · trivial
    · trivial
theorem loudA_sound (ok : CxOk C) (hr : HR C.P E H w) (ht : TR E n T A) (o : Oper) (hl : opA C T H o.op = .loud) : LoudOk C.P E H w (evalA A) o (loudA C T H o.op) := by
  cases ho : o.op
  case store t a x =>
    change LoudOk C.P E H w (evalA A) o (xh (dual (ev T a) (ev T x) fun a v => storeA C H t a v))
    cases hq : dual (ev T a) (ev T x) fun a v => storeA C H t a v with
    | none => trivial
    | some H' =>
      obtain ⟨av, xv, ha, hx, h⟩ := dual_some hq
      obtain ⟨w', hz, hp⟩ := storeA_sound ok hr h (ev_sound ht ha) (ev_sound ht hx)
      exact ⟨E, w', by simp only [execOp, ho, Sem.run_bind, hz, Result.andThen_ok, Sem.run_pure], hp⟩
  case mapUpdate t m k v =>
    change LoudOk C.P E H w (evalA A) o (xh (uno (ev T m) fun m => uno (ev T k) fun k => uno (ev T v) fun v => updA C H t m k v))
    cases hq : uno (ev T m) fun m => uno (ev T k) fun k => uno (ev T v) fun v => updA C H t m k v with
    | none => trivial
    | some H' =>
      obtain ⟨mv, hm, h⟩ := uno_some hq
      obtain ⟨kv, hk, h⟩ := uno_some h
      obtain ⟨vv, hv, h⟩ := uno_some h
      obtain ⟨w', hz, hp⟩ := updA_sound ok hr h (ev_sound ht hm) (ev_sound ht hk) (ev_sound ht hv)
      exact ⟨E, w', by simp only [execOp, ho, Sem.run_bind, hz, Result.andThen_ok, Sem.run_pure], hp⟩
  case convert s d x =>
    rw [ho] at hl
    change convX C T H s d x = _ at hl
    unfold convX at hl
    split at hl
    · cases hl
    · cases hl
    · rename_i hk
      change LoudOk C.P E H w (evalA A) o (xv (uno (ev T x) fun a => sameConv C H s d a))
      cases hq : uno (ev T x) fun a => sameConv C H s d a with
      | none => trivial
      | some p =>
        obtain ⟨v, H'⟩ := p
        obtain ⟨a, ha, h⟩ := uno_some hq
        obtain ⟨w', hz, hg, hp⟩ := sameConv_sound ok hr hk h (ev_sound ht ha)
        exact ⟨E, w', _, by simp only [execOp, ho, Sem.run_bind, hz, Result.andThen_ok, Sem.run_pure], hg, hp⟩
  case call c => exact callL_sound ok hr ht ho
  all_goals trivial
end
end Go.Ev
