import Derived.Test.YtbaaklcoafgcdaaGreatEvQ
set_option linter.unusedVariables false
set_option linter.unusedSimpArgs false
namespace Go.Ev
section
variable {C : Cx} {E : Env} {H : AHp} {w : World} {n : Nat} {T : Tm} {A : Array Value}
/-- neither both nil of an interface, nor both aggregates -/
def Apart (u v : Value) : Prop := (u = .nilIface → v ≠ .nilIface) ∧ (∀ a, u = .agg a → ∀ b, v ≠ .agg b)
theorem guard_apart {u v : Value} (h : Apart u v) (op : BinOp) (t : TypeId) (x y : Operand) (w : World) : (eqGuard op t x y u v).run C.P w = .ok () w := by
  unfold eqGuard
  have key : (match u, v with
    | .nilIface, .nilIface =>
      if (x matches .const _) || (y matches .const _) then (pure () : Sem Unit) else do
      if ← Op.eqGuardIn Op.maxDepth t u v then unsupported (.noEntry "binop/eql: two nil values of an interface type with methods, neither of them the literal nil")
    | .agg _, .agg _ => do
      if !(← program).eqGuardType (← program).depth t then pure () else
      if ← Op.eqGuardIn Op.maxDepth t u v then unsupported (.noEntry "binop/eql: two nil values of an interface type with methods, in a part of a struct or an array")
    | _, _ => pure ()).run C.P w = .ok () w := by
    cases u <;> cases v <;> first | rfl | (exfalso; exact h.1 rfl rfl) | (exfalso; exact h.2 _ rfl _ rfl)
  cases op <;> first | rfl | (simp; cases u <;> cases v <;> first | rfl | (exfalso; exact h.1 rfl rfl) | (exfalso; exact h.2 _ rfl _ rfl))
theorem guard_noeq {op : BinOp} (h : op ≠ .eql) (h' : op ≠ .neq) (t : TypeId) (x y : Operand) (u v : Value) (w : World) : (eqGuard op t x y u v).run C.P w = .ok () w := by
  cases op <;> first | rfl | exact absurd rfl h | exact absurd rfl h'
theorem guard_agg (ok : CxOk C) {t : TypeId} (ht : memN t C.eqs = true) (op : BinOp) (x y : Operand) (a b : Array Value) (w : World) : (eqGuard op t x y (.agg a) (.agg b)).run C.P w = .ok () w := by
  have := (ok.eqs t ht).2
  cases op <;> first | rfl | simp [eqGuard, this]
theorem eqPlain_apart {d : TypeDesc} {x y : AVal} {r : Bool} (h : eqPlain d x y = some r) {u v : Value} (hu : gam E x = some u) (hv : gam E y = some v) : Apart u v := by
  unfold eqPlain at h
  split at h
  all_goals (try (split at h <;> (try cases h)))
  all_goals (try (split at h <;> (try cases h)))
  all_goals (try (cases h; done))
  all_goals
    first
      | (simp only [gam] at hu hv; cases hu; cases hv; exact ⟨nofun, nofun⟩)
      | (obtain ⟨p, rfl, _⟩ := ptr_gam' hu; exact ⟨nofun, nofun⟩)
      | (obtain ⟨p, m, rfl, _⟩ := slice_gam hu; exact ⟨nofun, nofun⟩)
      | (obtain ⟨p, rfl, _⟩ := map_gam hu; exact ⟨nofun, nofun⟩)
      | (obtain ⟨p, q, rfl, _⟩ := func_gam hu; exact ⟨nofun, nofun⟩)
      | (obtain ⟨p, rfl⟩ := iface_gam hu; exact ⟨nofun, nofun⟩)
      | (obtain ⟨p, rfl⟩ := iface_gam hv; exact ⟨fun _ => nofun, fun _ _ _ => nofun⟩)
      | (simp only [gam] at hu; cases hu; exact ⟨nofun, nofun⟩)
theorem agg_gam {cs : List AVal} {u : Value} (h : gam E (.agg cs) = some u) : ∃ a : Array Value, u = .agg a ∧ gams E cs = some a.toList := by
  simp only [gam] at h
  cases hc : gams E cs with
  | none => simp [hc] at h
  | some l => simp [hc] at h; exact ⟨l.toArray, h.symm, by simp⟩
theorem tuple_gam {cs : List AVal} {u : Value} (h : gam E (.tuple cs) = some u) : ∃ a : Array Value, u = .tuple a ∧ gams E cs = some a.toList := by
  simp only [gam] at h
  cases hc : gams E cs with
  | none => simp [hc] at h
  | some l => simp [hc] at h; exact ⟨l.toArray, h.symm, by simp⟩
theorem partT_sound (ok : CxOk C) {t : TypeId} {cs : List AVal} {vs : Array Value} (hg : gams E cs = some vs.toList) {off : Nat} {a : AVal} (h : partT C t cs off = some a) (w : World) :
    ∃ u, (Go.part t vs off).run C.P w = .ok u w ∧ gam E a = some u := by
  unfold partT at h
  split at h
  · rename_i s hs; exact run_part ok hs hg h w
  · cases h
theorem eqFs_sound (ok : CxOk C) {eq : TypeId → AVal → AVal → Option Bool} {m : Nat}
    (he : ∀ t x y r, eq t x y = some r → ∀ u v, gam E x = some u → gam E y = some v → ∀ w, (Op.equalIn m t u v).run C.P w = .ok r w) {a b : List AVal} {xs ys : Array Value}
    (ha : gams E a = some xs.toList) (hb : gams E b = some ys.toList) : ∀ (l : List Field) (r : Bool), eqFs C eq a b l = some r → ∀ w, (Op.eqFields m xs ys l).run C.P w = .ok r w
  | [], r, h, w => by cases h; rfl
  | f :: l, r, h, w => by
    change cnd (f.name == "_") (eqFs C eq a b l) (match partT C f.type a f.offset with
      | some x => match partT C f.type b f.offset with
        | some y => match eq f.type x y with
          | some true => eqFs C eq a b l
          | some false => some false
          | none => none
        | none => none
      | none => none) = some r at h
    simp only [Op.eqFields]
    by_cases hn : f.name = "_"
    · simp only [hn, beq_self_eq_true] at h
      simp only [hn, ne_eq, not_true_eq_false, if_false]
      exact eqFs_sound ok he ha hb l r h w
    · have hb' : (f.name == "_") = false := by simp [hn]
      rw [hb'] at h
      simp only [cnd] at h
      simp only [hn, ne_eq, not_false_eq_true, if_true, Sem.run_bind]
      split at h
      · rename_i x hx
        obtain ⟨p, hp, hgp⟩ := partT_sound ok ha hx w
        split at h
        · rename_i y hy
          obtain ⟨q, hq, hgq⟩ := partT_sound ok hb hy w
          simp only [hp, hq, Result.andThen_ok]
          split at h
          · rename_i hr
            simp only [he _ _ _ _ hr _ _ hgp hgq w, Result.andThen_ok, Bool.not_true, Bool.false_eq_true, if_false]
            exact eqFs_sound ok he ha hb l r h w
          · rename_i hr
            cases h
            simp only [he _ _ _ _ hr _ _ hgp hgq w, Result.andThen_ok, Bool.not_false, if_true, Sem.run_pure]
          · cases h
        · cases h
      · cases h
theorem eqA_sound (ok : CxOk C) : ∀ (n : Nat) (t : TypeId) (x y : AVal) (r : Bool), eqA C n t x y = some r → ∀ m, n ≤ m → ∀ u v, gam E x = some u → gam E y = some v → ∀ w, (Op.equalIn m t u v).run C.P w = .ok r w
  | 0, t, x, y, r, h, m, hm, u, v, hu, hv, w => by cases h
  | n + 1, t, x, y, r, h, m, hm, u, v, hu, hv, w => by
    change eqA1 C (eqA C n) t x y = some r at h
    obtain ⟨m, rfl⟩ : ∃ k, m = k + 1 := ⟨m - 1, by omega⟩
    unfold eqA1 at h
    split at h
    · rename_i fs hfs
      split at h
      · rename_i a
        split at h
        · rename_i b
          obtain ⟨ht, h⟩ := cnd_some h
          obtain ⟨xs, rfl, hxs⟩ := agg_gam hu
          obtain ⟨ys, rfl, hys⟩ := agg_gam hv
          have hf : C.P.fieldsOf t = fs := by simp [Program.fieldsOf, und_sound ok hfs]
          rw [run_equalIn_struct w m t xs ys (by rw [hf]; exact und_sound ok hfs) (ok.eqs t ht).1, hf]
          exact eqFs_sound ok (fun t x y r h u v hu hv w => eqA_sound ok n t x y r h m (by omega) u v hu hv w) hxs hys _ _ h w
        · cases h
      · cases h
    · rename_i d _ hd
      exact eqPlain_sound ok hd h hu hv m w
    · cases h
theorem eqA_guard (ok : CxOk C) {k : Nat} {t : TypeId} {x y : AVal} {r : Bool} (h : eqA C (k + 1) t x y = some r) {u v : Value} (hu : gam E x = some u) (hv : gam E y = some v) (op : BinOp) (X Y : Operand) (w : World) :
    (eqGuard op t X Y u v).run C.P w = .ok () w := by
  change eqA1 C (eqA C k) t x y = some r at h
  unfold eqA1 at h
  split at h
  · split at h
    · split at h
      · obtain ⟨ht, h⟩ := cnd_some h
        obtain ⟨xs, rfl, _⟩ := agg_gam hu
        obtain ⟨ys, rfl, _⟩ := agg_gam hv
        exact guard_agg ok ht op X Y xs ys w
      · cases h
    · cases h
  · exact guard_apart (eqPlain_apart h hu hv) op t X Y w
  · cases h
/-- of such values the model asks for equality itself -/
def Asks : AVal → Prop
  | .int _ _ | .str _ | .flt _ _ | .cplx _ _ _ | .opq _ _ | .capGe _ _ | .capLt _ _ => False
  | _ => True
theorem eqOp_sound (ok : CxOk C) {op : BinOp} {t : TypeId} {x y r : AVal} (hx : Asks x) (h : eqOp C op t x y = some r) {u v : Value} (hu : gam E x = some u) (hv : gam E y = some v) (X Y : Operand) (w : World) :
    (eqGuard op t X Y u v).run C.P w = .ok () w ∧ ∃ z, (Go.binOp op t u v).run C.P w = .ok z w ∧ gam E r = some z := by
  have shape : ∀ s, (Op.equal t u v).run C.P w = .ok s w → (Go.binOp .eql t u v).run C.P w = .ok (.bool s) w ∧ (Go.binOp .neq t u v).run C.P w = .ok (.bool (!s)) w := by
    intro s hs
    have nu : (∀ k m, u ≠ .int k m) ∧ (∀ b, u ≠ .string b) ∧ (∀ k b, u ≠ .float k b) ∧ (∀ k a b, u ≠ .complex k a b) := by
      cases x
      case int | str | flt | cplx | opq | capGe | capLt => exact hx.elim
      case bool | yieldf | nilFunc | nilIface => 
        simp only [gam] at hu
        first
          | (cases hu; exact ⟨nofun, nofun, nofun, nofun⟩)
          | (split at hu <;> cases hu; exact ⟨nofun, nofun, nofun, nofun⟩)
      case ptr => obtain ⟨_, rfl, _⟩ := ptr_gam' hu; exact ⟨nofun, nofun, nofun, nofun⟩
      case slice => obtain ⟨_, _, rfl, _⟩ := slice_gam hu; exact ⟨nofun, nofun, nofun, nofun⟩
      case map => obtain ⟨_, rfl, _⟩ := map_gam hu; exact ⟨nofun, nofun, nofun, nofun⟩
      case func => obtain ⟨_, _, rfl, _⟩ := func_gam hu; exact ⟨nofun, nofun, nofun, nofun⟩
      case iface => obtain ⟨_, rfl⟩ := iface_gam hu; exact ⟨nofun, nofun, nofun, nofun⟩
      case agg => obtain ⟨_, rfl, _⟩ := agg_gam hu; exact ⟨nofun, nofun, nofun, nofun⟩
      case tuple => obtain ⟨_, rfl, _⟩ := tuple_gam hu; exact ⟨nofun, nofun, nofun, nofun⟩
    obtain ⟨n1, n2, n3, n4⟩ := nu
    constructor
    · cases u <;> first | exact absurd rfl (n1 _ _) | exact absurd rfl (n2 _) | exact absurd rfl (n3 _ _) | exact absurd rfl (n4 _ _ _) | (simp [Go.binOp, hs])
    · cases u <;> first | exact absurd rfl (n1 _ _) | exact absurd rfl (n2 _) | exact absurd rfl (n3 _ _) | exact absurd rfl (n4 _ _ _) | (simp [Go.binOp, hs])
  unfold eqOp at h
  split at h
  · split at h
    · rename_i b hb
      cases h
      exact ⟨eqA_guard ok hb hu hv _ X Y w, _, (shape b (eqA_sound ok 8 t x y b hb 10000 (by omega) u v hu hv w)).1, rfl⟩
    · cases h
  · split at h
    · rename_i b hb
      cases h
      exact ⟨eqA_guard ok hb hu hv _ X Y w, _, (shape b (eqA_sound ok 8 t x y b hb 10000 (by omega) u v hu hv w)).2, by simp only [gam, notB_eq]⟩
    · cases h
  · cases h
end
end Go.Ev
