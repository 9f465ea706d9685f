import Derived.Test.YtbaaklcoafgcdaaGreatEvV
set_option linter.unusedVariables false
set_option linter.unusedSimpArgs false
namespace Go.Ev
section
variable {C : Cx} {E : Env} {H : AHp} {w : World} {n : Nat} {T : Tm} {A : Array Value}
theorem int_gam {k : IntKind} {i : Int} {u : Value} (h : gam E (.int k i) = some u) : u = .int k i := by simp [gam] at h; exact h.symm
theorem str_gam {s : List Nat} {u : Value} (h : gam E (.str s) = some u) : u = .string (strOf s) := by simp [gam] at h; exact h.symm
/-! ### Cutting -/
theorem run_bound {a : AVal} {dflt lim h : Nat} (hb : boundA (some a) dflt lim = some h) {v : Value} (hv : gam E a = some v) {y : Nat} (hy : lim ≤ y) (code : BoundsCode) (w : World) :
    (Instr.sliceBound v y code).run C.P w = .ok h w := by
  unfold boundA at hb
  split at hb
  · rename_i he; cases he
  · rename_i k i he
    cases he
    obtain ⟨h1, h2⟩ := cnd_some hb
    injection h2 with h2
    subst h2
    have h1 := Nat.le_of_ble_eq_true h1
    rw [int_gam hv]
    have : (0 : Int) ≤ Int.ofNat i ∧ Int.ofNat i ≤ (y : Int) := ⟨by simp, by simp; omega⟩
    simp only [Instr.sliceBound, asIntOf, Sem.run_bind, Sem.run_pure, Result.andThen_ok, if_pos this]
    rfl
  · cases hb
theorem bound_le {x : Option AVal} {dflt lim h : Nat} (hb : boundA x dflt lim = some h) : h ≤ lim ∨ (x = none ∧ h = dflt) := by
  unfold boundA at hb
  split at hb
  · cases hb; exact .inr ⟨rfl, rfl⟩
  · obtain ⟨h1, h2⟩ := cnd_some hb; cases h2; exact .inl (Nat.le_of_ble_eq_true h1)
  · cases hb
def gamO (E : Env) (x : Option AVal) (u : Option Value) : Prop := match x, u with
  | none, none => True
  | some a, some v => gam E a = some v
  | _, _ => False
theorem gamO_some {a : AVal} {u : Option Value} (h : gamO E (some a) u) : ∃ v, u = some v ∧ gam E a = some v := by
  cases u with
  | none => exact h.elim
  | some v => exact ⟨v, rfl, h⟩
theorem gamO_none {u : Option Value} (h : gamO E none u) : u = none := by
  cases u with
  | none => rfl
  | some v => exact h.elim
theorem run_low {lo : Option AVal} {ul : Option Value} (hl : gamO E lo ul) {l h : Nat} (hb : boundA lo 0 h = some l) (code : BoundsCode) (w : World) :
    (∀ v, ul = some v → (Instr.sliceBound v h code).run C.P w = .ok l w) ∧ (ul = none → l = 0) ∧ l ≤ h := by
  cases lo with
  | none =>
    obtain rfl := gamO_none hl
    cases hb
    exact ⟨nofun, fun _ => rfl, Nat.zero_le _⟩
  | some a =>
    obtain ⟨v, rfl, hv⟩ := gamO_some hl
    refine ⟨fun v' e => ?_, nofun, ?_⟩
    · cases e; exact run_bound hb hv (Nat.le_refl _) _ _
    · rcases bound_le hb with h | ⟨h, _⟩
      · exact h
      · cases h
theorem run_bounds2 {lo hi : Option AVal} {ul uh : Option Value} (hl : gamO E lo ul) (hh : gamO E hi uh) {len lim h l : Nat} (h1 : boundA hi len lim = some h) (h2 : boundA lo 0 h = some l) {y : Nat} (hy : lim ≤ y) (sl : Bool) (w : World) :
    (Instr.sliceBounds sl len y ul uh none).run C.P w = .ok (l, h, y) w := by
  unfold Instr.sliceBounds
  obtain ⟨hlo, hlo2, _⟩ := run_low (C := C) hl h2 .sliceB w
  cases hi with
  | none =>
    obtain rfl := gamO_none hh
    cases h1
    cases ul with
    | none => simp [hlo2 rfl]
    | some v => simp [hlo v rfl]
  | some a =>
    obtain ⟨v, rfl, hv⟩ := gamO_some hh
    have hb := run_bound (C := C) h1 hv hy (if sl then .sliceAcap else .sliceAlen) w
    cases ul with
    | none => simp [hb, hlo2 rfl]
    | some v => simp [hb, hlo v rfl]
theorem run_bounds3 {lo : Option AVal} {hi mx : AVal} {ul : Option Value} {uh um : Value} (hl : gamO E lo ul) (hh : gam E hi = some uh) (hm : gam E mx = some um) {len lim m h l d1 d2 : Nat} (h0 : boundA (some mx) d1 lim = some m) (h1 : boundA (some hi) d2 m = some h) (h2 : boundA lo 0 h = some l) {y : Nat} (hy : lim ≤ y) (w : World) :
    (Instr.sliceBounds true len y ul (some uh) (some um)).run C.P w = .ok (l, h, m) w := by
  unfold Instr.sliceBounds
  obtain ⟨hlo, hlo2, _⟩ := run_low (C := C) hl h2 .slice3C w
  have hb0 := run_bound (C := C) h0 hm hy .slice3Acap w
  have hb1 := run_bound (C := C) h1 hh (Nat.le_refl _) .slice3B w
  cases ul with
  | none => simp [hb0, hb1, hlo2 rfl]
  | some v => simp [hb0, hb1, hlo v rfl]
/-- the capacity that a slice has, and what of it is known -/
theorem slice_cap {a : Option (Nat × Nat)} {l : Nat} {c : Cap} {u : Value} (h : gam E (.slice a l c) = some u) : ∃ p y, u = .slice p l y ∧ capLim l c ≤ y ∧
    (match (generalizing := false) c with
    | .exact m => y = m ∧ l ≤ m ∧ ptrOf E a = some p
    | .free d => ∃ b x, a = some b ∧ E.ν b.1 = some x ∧ p = some ⟨x, b.2, none⟩ ∧ l + d ≤ E.ρ b.1 ∧ y = E.ρ b.1 - d
    | .edge _ _ _ => l = 0
    | .ge m => ∃ b x, a = some b ∧ E.ν b.1 = some x ∧ p = some ⟨x, b.2, none⟩ ∧ l ≤ m ∧ m ≤ E.ρ b.1 ∧ y = E.ρ b.1
    | .lt m => ∃ b x, a = some b ∧ E.ν b.1 = some x ∧ p = some ⟨x, b.2, none⟩ ∧ l ≤ E.ρ b.1 ∧ E.ρ b.1 < m ∧ y = E.ρ b.1) := by
  simp only [gam] at h
  cases a with
  | none =>
    cases c with
    | exact m =>
      simp only [sliceOf] at h
      obtain ⟨h1, h⟩ := bif_some h
      cases h
      exact ⟨none, m, rfl, Nat.le_refl _, rfl, Nat.le_of_ble_eq_true h1, rfl⟩
    | _ => simp [sliceOf] at h
  | some b =>
    obtain ⟨b, o⟩ := b
    cases hb : E.ν b with
    | none => cases c <;> cases l <;> simp [sliceOf, hb] at h
    | some x =>
      cases c with
      | exact m =>
        simp only [sliceOf, hb] at h
        obtain ⟨h1, h⟩ := bif_some h
        cases h
        exact ⟨_, m, rfl, Nat.le_refl _, rfl, Nat.le_of_ble_eq_true h1, by simp [ptrOf, hb]⟩
      | free d =>
        simp only [sliceOf, hb] at h
        obtain ⟨h1, h⟩ := bif_some h
        cases h
        have h1 := Nat.le_of_ble_eq_true h1
        exact ⟨_, _, rfl, by show l ≤ _; omega, (b, o), x, rfl, hb, rfl, h1, rfl⟩
      | edge d k z =>
        cases l with
        | zero =>
          simp only [sliceOf, hb] at h
          obtain ⟨h1, h⟩ := bif_some h
          cases h
          exact ⟨_, _, rfl, Nat.zero_le _, rfl⟩
        | succ l => simp [sliceOf] at h
      | ge m =>
        simp only [sliceOf, hb] at h
        obtain ⟨h1, h⟩ := bif_some h
        cases h
        simp only [Bool.and_eq_true] at h1
        have h2 := Nat.le_of_ble_eq_true h1.1
        have h3 := Nat.le_of_ble_eq_true h1.2
        exact ⟨_, _, rfl, h3, (b, o), x, rfl, hb, rfl, h2, h3, rfl⟩
      | lt m =>
        simp only [sliceOf, hb] at h
        obtain ⟨h1, h⟩ := bif_some h
        cases h
        simp only [Bool.and_eq_true] at h1
        have h2 := Nat.le_of_ble_eq_true h1.1
        have h3 := Nat.le_of_ble_eq_true h1.2
        exact ⟨_, _, rfl, h2, (b, o), x, rfl, hb, rfl, h2, h3, rfl⟩
theorem ble_of {a b : Nat} (h : a ≤ b) : Nat.ble a b = true := Nat.ble_eq_true_of_le h
theorem moveP_gam {a : Option (Nat × Nat)} {p : Option Addr} (h : ptrOf E a = some p) (k : Nat) : ptrOf E (moveP a k) = some (p.map (·.add k)) := by
  cases a with
  | none => simp [ptrOf] at h; subst h; rfl
  | some b =>
    obtain ⟨b, o⟩ := b
    simp only [ptrOf] at h
    cases hb : E.ν b with
    | none => simp [hb] at h
    | some x =>
      simp [hb] at h; subst h
      simp only [moveP, ptrOf, hb, Option.map_some, add_eq]; rfl
theorem exact_gam {a : Option (Nat × Nat)} {p : Option Addr} (h : ptrOf E a = some p) {l m : Nat} (hlm : l ≤ m) : gam E (.slice a l (.exact m)) = some (.slice p l m) := by
  cases a with
  | none => simp [ptrOf] at h; subst h; simp [gam, sliceOf, ble_of hlm]
  | some b =>
    obtain ⟨b, o⟩ := b
    simp only [ptrOf] at h
    cases hb : E.ν b with
    | none => simp [hb] at h
    | some x => simp [hb] at h; subst h; simp [gam, sliceOf, hb, ble_of hlm]
theorem free_gam {b o x l d : Nat} (hb : E.ν b = some x) (h : l + d ≤ E.ρ b) : gam E (.slice (some (b, o)) l (.free d)) = some (.slice (some ⟨x, o, none⟩) l (E.ρ b - d)) := by
  simp [gam, sliceOf, hb, ble_of h]
/-- the cut of a slice whose capacity is only partly known -/
theorem cutFree_gam {b o x n l h d size : Nat} (hb : E.ν b = some x) (hn : n + d ≤ E.ρ b) (hh : h ≤ n) (hl : l ≤ h) (hl0 : l ≠ 0) :
    gam E (cutFree (some (b, o)) n l h d size) = some (.slice (if E.ρ b - d = l then some ⟨x, o, none⟩ else (some ⟨x, o, none⟩ : Option Addr).map (·.add (l * size))) (h - l) (E.ρ b - d - l)) := by
  unfold cutFree
  rw [ble_eq]
  by_cases hc : l.succ ≤ n
  · have hne : ¬ E.ρ b - d = l := by omega
    simp only [hc, decide_true, cnd, hne, if_false, moveP, Option.map_some, add_eq]
    have e : E.ρ b - d - l = E.ρ b - (d + l) := by omega
    rw [e]
    exact free_gam (o := o + l * size) hb (by show h - l + (d + l) ≤ _; omega)
  · have e1 : h - l = 0 := by omega
    simp only [hc, decide_false, cnd, e1]
    have h2 : l + d ≤ E.ρ b := by omega
    simp only [gam, sliceOf, hb, ble_of h2, cond_true, Option.map_some, add_eq]
    congr 2
    split <;> rfl
theorem cutA_sound {a : Option (Nat × Nat)} {n : Nat} {cap : Cap} {size l h : Nat} {r : AVal} (hc : cutA a n cap size l h = some r) {p : Option Addr} {y : Nat} (hu : gam E (.slice a n cap) = some (.slice p n y))
    (hh : h ≤ capLim n cap ∨ h = n) (hl : l ≤ h) : gam E r = some (.slice (if y = l then p else p.map (·.add (l * size))) (h - l) (y - l)) := by
  obtain ⟨p', y', he, hlim, hcase⟩ := slice_cap hu
  cases he
  cases cap with
  | exact m =>
    obtain ⟨rfl, hn, hp⟩ := hcase
    have hhm : h ≤ y := by rcases hh with h | h <;> first | exact h | omega
    cases hc
    rw [beq_eq]
    by_cases e : y = l
    · simp only [e, decide_true, cnd, if_true]
      exact exact_gam hp (by show h - l ≤ l - l; omega)
    · simp only [e, decide_false, cnd, if_false]
      exact exact_gam (moveP_gam hp _) (by show h - l ≤ y - l; omega)
  | free d =>
    obtain ⟨⟨b, o⟩, x, rfl, hb, rfl, hd, rfl⟩ := hcase
    dsimp only at hb hd ⊢
    have hhn : h ≤ n := by rcases hh with h | h <;> first | exact h | omega
    cases hc
    rw [beq_eq]
    by_cases e : l = 0
    · subst e
      simp only [decide_true, cnd, Nat.sub_zero, Nat.zero_mul, Option.map_some, add_eq, Nat.add_zero, ite_self]
      exact free_gam hb (by omega)
    · simp only [e, decide_false, cnd]
      exact cutFree_gam hb hd hhn hl e
  | edge d k z =>
    have hcase : n = 0 := hcase
    subst hcase
    have h0 : h = 0 := by rcases hh with h | h <;> first | exact Nat.le_zero.1 h | exact h
    subst h0
    obtain rfl : l = 0 := by omega
    cases hc
    rw [hu]
    cases p with
    | none => simp
    | some q => simp [Addr.add]
  | ge m =>
    obtain ⟨⟨b, o⟩, x, rfl, hb, rfl, h1, h2, rfl⟩ := hcase
    dsimp only at hb h2 ⊢
    have hhm : h ≤ m := by rcases hh with h | h <;> first | exact h | omega
    change cnd (Nat.beq l 0) (some (AVal.slice (some (b, o)) h (.ge m))) (cnd (Nat.ble (Nat.succ l) m) (some (.slice (moveP (some (b, o)) (Nat.mul l size)) (Nat.sub h l) (.free l))) none) = some r at hc
    rw [beq_eq] at hc
    by_cases e : l = 0
    · subst e
      simp only [decide_true, cnd] at hc
      cases hc
      simp only [Nat.sub_zero, Nat.zero_mul, Option.map_some, add_eq, Nat.add_zero, ite_self]
      simp [gam, sliceOf, hb, ble_of hhm, ble_of h2]
    · simp only [e, decide_false] at hc
      obtain ⟨h3, hc⟩ := cnd_some hc
      have h3 := Nat.le_of_ble_eq_true h3
      cases hc
      have hne : ¬ E.ρ b = l := by omega
      simp only [hne, if_false, Option.map_some, add_eq]
      have h4 : h ≤ E.ρ b := Nat.le_trans hhm h2
      have h5 : h - l + l = h := Nat.sub_add_cancel hl
      exact free_gam (o := o + l * size) hb (by rw [show Nat.sub h l = h - l from rfl, h5]; exact h4)
  | lt m =>
    obtain ⟨⟨b, o⟩, x, rfl, hb, rfl, h1, h2, rfl⟩ := hcase
    dsimp only at hb h1 h2 ⊢
    have hhn : h ≤ n := by rcases hh with h | h <;> first | exact h | omega
    cases hc
    rw [beq_eq]
    by_cases e : l = 0
    · subst e
      simp only [decide_true, cnd, Nat.sub_zero, Nat.zero_mul, Option.map_some, add_eq, Nat.add_zero, ite_self]
      have h3 : h ≤ E.ρ b := by omega
      simp [gam, sliceOf, hb, ble_of h3, ble_of (show E.ρ b + 1 ≤ m from h2)]
    · simp only [e, decide_false, cnd]
      have := cutFree_gam (d := 0) (o := o) (size := size) hb (by omega) hhn hl e
      simpa using this
theorem strOf_extract (s : List Nat) (l h : Nat) : strOf ((s.take h).drop l) = (strOf s).extract l h := by
  apply ByteArray.ext
  apply Array.ext'
  simp only [strOf, ByteArray.data_extract, Array.toList_extract, List.extract_eq_take_drop]
  rw [List.drop_take, List.map_take, List.map_drop]
theorem sliceA_sound (ok : CxOk C) {t : TypeId} {x r : AVal} {lo hi mx : Option AVal} (h : sliceA C t x lo hi mx = some r) {u : Value} (hu : gam E x = some u) {ul uh um : Option Value}
    (hl : gamO E lo ul) (hh : gamO E hi uh) (hm : gamO E mx um) (w : World) : ∃ z, (Instr.sliceAt t u ul uh um).run C.P w = .ok z w ∧ gam E r = some z := by
  unfold sliceA at h
  split at h
  · rename_i s
    split at h
    · rename_i ht
      split at h
      · obtain rfl := gamO_none hm
        split at h
        · rename_i hv hb1
          split at h
          · rename_i lv hb2
            cases h
            rw [str_gam hu]
            rw [len_eq] at hb1
            have hb := run_bounds2 (C := C) hl hh hb1 hb2 (Nat.le_refl _) false w
            have e : (strOf s).size = s.length := strOf_size s
            refine ⟨.string ((strOf s).extract lv hv), ?_, ?_⟩
            · simp only [Instr.sliceAt, Instr.slice, Sem.run_bind, run_und ok ht, Result.andThen_ok, Option.isSome_none, Bool.false_eq_true, if_false, Sem.run_pure, e, hb]
            · simp only [gam, dropL_eq, takeL_eq, strOf_extract]
          · cases h
        · cases h
      · cases h
    · cases h
  · rename_i a n cap
    unfold sliceS at h
    split at h
    · rename_i es hes
      obtain ⟨ht, hsz, _⟩ := elem_und hes
      obtain ⟨p, y, rfl, hlim, hcase⟩ := slice_cap hu
      split at h
      · obtain rfl := gamO_none hm
        split at h
        · rename_i hv hb1
          split at h
          · rename_i lv hb2
            have hb := run_bounds2 (C := C) hl hh hb1 hb2 hlim true w
            have hle : lv ≤ hv := (run_low (C := C) hl hb2 .sliceB w).2.2
            have hhv : hv ≤ capLim n cap ∨ hv = n := by
              rcases bound_le hb1 with h | ⟨_, h⟩
              · exact .inl h
              · exact .inr h
            refine ⟨_, ?_, cutA_sound h hu hhv hle⟩
            simp only [Instr.sliceAt, Instr.slice, Sem.run_bind, run_und ok ht, Result.andThen_ok, hb, run_size ok hsz, Sem.run_pure]
          · cases h
        · cases h
      · rename_i am
        obtain ⟨vm, rfl, hvm⟩ := gamO_some hm
        split at h
        · rename_i m hb0
          split at h
          · rename_i hv hb1
            split at h
            · rename_i lv hb2
              split at h
              · rename_i ah
                obtain ⟨vh, rfl, hvh⟩ := gamO_some hh
                have hle : lv ≤ hv := (run_low (C := C) hl hb2 .slice3C w).2.2
                have hhm : hv ≤ m := by rcases bound_le hb1 with h | ⟨h, _⟩ <;> first | exact h | cases h
                have hb := run_bounds3 (C := C) (len := n) hl hvh hvm hb0 hb1 hb2 hlim w
                have hp : (∀ d k z, cap ≠ .edge d k z) → ptrOf E a = some p := by
                  intro hne
                  obtain ⟨p', m', he, hp'⟩ := slice_ptr hu hne
                  cases he; exact hp'
                refine ⟨.slice (if m = lv then p else p.map (·.add (lv * es.2))) (hv - lv) (m - lv), ?_, ?_⟩
                · simp only [Instr.sliceAt, Instr.slice, Sem.run_bind, run_und ok ht, Result.andThen_ok, hb, run_size ok hsz, Sem.run_pure]
                · split at h
                  · cases h
                  · rename_i hne
                    have hp := hp (fun d k z e => hne d k z e)
                    cases h
                    rw [beq_eq]
                    by_cases e : m = lv
                    · simp only [e, decide_true, cnd, if_true]
                      exact exact_gam hp (by show hv - lv ≤ lv - lv; omega)
                    · simp only [e, decide_false, cnd, if_false]
                      exact exact_gam (moveP_gam hp _) (by show hv - lv ≤ m - lv; omega)
              · cases h
            · cases h
          · cases h
        · cases h
    · cases h
  · cases h
end
end Go.Ev
