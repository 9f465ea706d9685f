import Derived.Test.YtbaaklcoafgcdaaGreatEvP
set_option linter.unusedVariables false
set_option linter.unusedSimpArgs false
namespace Go.Ev
/-! ### Shapes of what is read -/
section
variable {C : Cx} {E : Env} {H : AHp} {w : World} {n : Nat} {T : Tm} {A : Array Value}
theorem gam_cells {a : AVal} {v : Value} (h : gam E a = some v) : gams E a.cells = some v.cells.toList := by
  cases a
  case agg cs =>
    simp only [gam] at h
    cases hc : gams E cs with
    | none => simp [hc] at h
    | some l => simp [hc] at h; subst h; simpa [AVal.cells, Value.cells] using hc
  all_goals
    have hv : v.cells = #[v] := by
      revert h
      first
        | (simp only [gam]; intro h; (repeat' split at h) <;> cases h <;> rfl)
        | (rename_i r; cases r <;> (simp only [gam]; intro h; (repeat' split at h) <;> cases h <;> rfl))
        | (simp only [gam]; intro h; split at h
           · rename_i x hx
             cases hb : x.oneCell' with
             | false => simp [hb] at h
             | true => simp [hb] at h; subst h; cases x <;> first | rfl | cases hb
           · cases h)
        | (simp only [gam]
           rename_i p len cap
           intro h
           unfold sliceOf at h
           (repeat' split at h) <;> first | (cases h; rfl) | cases h | (obtain ⟨_, h⟩ := bif_some h; cases h; rfl))
        | (simp only [gam]; intro h; split at h
           · obtain ⟨_, h⟩ := bif_some h; cases h; rfl
           · cases h)
    rw [hv]
    simp only [AVal.cells]
    exact gams_cons.2 ⟨v, [], h, rfl, rfl⟩
theorem one_sound {a : AVal} {v : Value} (ho : a.one = true) (h : gam E a = some v) : v.oneCell' = true := by
  cases a
  case agg => cases ho
  case tuple => cases ho
  case opq => cases ho
  all_goals
    revert h
    first
      | (simp only [gam]; intro h; (repeat' split at h) <;> cases h <;> rfl)
      | (rename_i r; cases r <;> (simp only [gam]; intro h; (repeat' split at h) <;> cases h <;> rfl))
      | (simp only [gam]
         rename_i p len cap
         intro h
         unfold sliceOf at h
         (repeat' split at h) <;> first | (cases h; rfl) | cases h | (obtain ⟨_, h⟩ := bif_some h; cases h; rfl))
      | (simp only [gam]; intro h; split at h
         · obtain ⟨_, h⟩ := bif_some h; cases h; rfl
         · cases h)
theorem allOne_cons {a : AVal} {l : List AVal} : allOne (a :: l) = true ↔ a.one = true ∧ allOne l = true := by
  show cnd a.one (allOne l) false = true ↔ _
  cases a.one <;> simp [cnd]
theorem allOne_sound : ∀ {l : List AVal} {vs : List Value}, allOne l = true → gams E l = some vs → ∀ v ∈ vs, v.oneCell' = true
  | [], vs, ho, h => by simp [gams] at h; subst h; simp
  | a :: l, vs, ho, h => by
    obtain ⟨x, y, hx, hy, rfl⟩ := gams_cons.1 h
    obtain ⟨h1, h2⟩ := allOne_cons.1 ho
    intro v hv
    rcases List.mem_cons.1 hv with rfl | hv
    · exact one_sound h1 hx
    · exact allOne_sound h2 hy v hv

/-! ### Equality -/
theorem isN_eq {α : Type} (o : Option α) : isN o = o.isNone := by cases o <;> rfl
theorem map_gam_none {u : Value} (h : gam E (.map none) = some u) : u = .map none := by simp [gam] at h; exact h.symm
theorem slice_gam {a : Option (Nat × Nat)} {l : Nat} {c : Cap} {u : Value} (h : gam E (.slice a l c) = some u) : ∃ p m, u = .slice p l m ∧ p.isNone = a.isNone := by
  simp only [gam] at h
  unfold sliceOf at h
  (repeat' split at h) <;> first | (cases h; exact ⟨_, _, rfl, rfl⟩) | cases h | (obtain ⟨_, h⟩ := bif_some h; cases h; exact ⟨_, _, rfl, rfl⟩) | (obtain ⟨_, h⟩ := bif_some h; cases h; refine ⟨_, _, rfl, ?_⟩; split <;> rfl)
theorem ptr_gam_none {u : Value} (h : gam E (.ptr none) = some u) : u = .pointer none := by simp [gam, ptrOf] at h; exact h.symm
theorem ptr_gam' {a : Option (Nat × Nat)} {u : Value} (h : gam E (.ptr a) = some u) : ∃ p, u = .pointer p ∧ p.isNone = a.isNone := by
  cases a with
  | none => exact ⟨none, ptr_gam_none h, rfl⟩
  | some p => obtain ⟨x, _, rfl⟩ := ptr_gam h; exact ⟨_, rfl, rfl⟩
theorem map_gam {r : Option Nat} {u : Value} (h : gam E (.map r) = some u) : ∃ p, u = .map p ∧ p.isNone = r.isNone := by
  cases r with
  | none => exact ⟨none, map_gam_none h, rfl⟩
  | some r =>
    simp only [gam] at h
    cases hr : E.ν r with
    | none => simp [hr] at h
    | some x => simp [hr] at h; exact ⟨some x, h.symm, rfl⟩
theorem func_gam {f : FuncId} {a b : List AVal} {u : Value} (h : gam E (.func f a b) = some u) : ∃ x y, u = .func (.func f) x y ∧ gams E a = some x.toList ∧ gams E b = some y.toList := by
  simp only [gam] at h
  cases ha : gams E a with
  | none => simp [ha] at h
  | some x => cases hb : gams E b with
    | none => simp [ha, hb] at h
    | some y => simp [ha, hb] at h; exact ⟨x.toArray, y.toArray, h.symm, by simp, by simp⟩
theorem iface_gam {t : TypeId} {a : AVal} {u : Value} (h : gam E (.iface t a) = some u) : ∃ x, u = .iface t x := by
  simp only [gam] at h
  cases ha : gam E a with
  | none => simp [ha] at h
  | some x => simp [ha] at h; exact ⟨x, h.symm⟩
theorem eqPlain_sound (ok : CxOk C) {t : TypeId} {d : TypeDesc} (hd : und C t = some d) {x y : AVal} {r : Bool} (h : eqPlain d x y = some r) {u v : Value} (hu : gam E x = some u) (hv : gam E y = some v) (m : Nat) (w : World) :
    (Op.equalIn (m + 1) t u v).run C.P w = .ok r w := by
  have hh := run_und ok hd w
  unfold eqPlain at h
  split at h
  all_goals (try (split at h <;> (try cases h)))
  all_goals (try (split at h <;> (try cases h)))
  · rename_i a b
    simp only [gam] at hu hv; cases hu; cases hv
    simp [Op.equalIn, hh, eqB_eq]
  · obtain ⟨hk, h2⟩ := cnd_some h
    clear h
    rw [eqK_iff] at hk; subst hk
    cases h2
    simp only [gam] at hu hv; cases hu; cases hv
    simp [Op.equalIn, hh, eqI_eq]
  · rename_i a b
    simp only [gam] at hu hv; cases hu; cases hv
    simp [Op.equalIn, hh, eqS_eq, beq_toListBytes, strOf_toList]
  · rename_i a
    obtain rfl := ptr_gam_none hu
    obtain ⟨p, rfl, hp⟩ := ptr_gam' hv
    simp [Op.equalIn, hh, isN_eq, hp]
  · obtain ⟨p, rfl, hp⟩ := ptr_gam' hu
    obtain rfl := ptr_gam_none hv
    cases p with
    | none => cases hp
    | some p => simp [Op.equalIn, hh]
  · simp only [gam] at hu; cases hu
    obtain ⟨x, rfl⟩ := iface_gam hv
    simp [Op.equalIn, hh]
  · simp only [gam] at hv; cases hv
    obtain ⟨x, rfl⟩ := iface_gam hu
    simp [Op.equalIn, hh]
  · obtain ⟨p, m1, rfl, hp⟩ := slice_gam hu
    obtain ⟨q, m2, rfl, hq⟩ := slice_gam hv
    cases p with
    | some p => cases hp
    | none => simp [Op.equalIn, hh, isN_eq, hq]
  · obtain ⟨p, m1, rfl, hp⟩ := slice_gam hu
    obtain ⟨q, m2, rfl, hq⟩ := slice_gam hv
    cases p with
    | none => cases hp
    | some p => cases q with
      | some q => cases hq
      | none => simp [Op.equalIn, hh]
  · obtain rfl := map_gam_none hu
    obtain ⟨p, rfl, hp⟩ := map_gam hv
    simp [Op.equalIn, hh, isN_eq, hp]
  · obtain ⟨p, rfl, hp⟩ := map_gam hu
    obtain rfl := map_gam_none hv
    cases p with
    | none => cases hp
    | some p => simp [Op.equalIn, hh]
  · simp only [gam] at hu hv; cases hu; cases hv
    simp [Op.equalIn, hh]
  · simp only [gam] at hu; cases hu
    obtain ⟨x, y, rfl, _⟩ := func_gam hv
    simp [Op.equalIn, hh]
  · simp only [gam] at hv; cases hv
    obtain ⟨x, y, rfl, _⟩ := func_gam hu
    simp [Op.equalIn, hh]
  · cases h
end
end Go.Ev
