import Derived.Test.YtbaaklcoafgcdaaGreatEvW
set_option linter.unusedVariables false
set_option linter.unusedSimpArgs false
namespace Go.Ev
section
variable {C : Cx} {E : Env} {H : AHp} {w : World} {n : Nat} {T : Tm} {A : Array Value}
theorem fieldAd_sound (ok : CxOk C) {s : TypeId} {f : Nat} {a r : AVal} (h : fieldAd C s f (some a) = some r) {u : Value} (hu : gam E a = some u) (w : World) : ∃ z, (Instr.fieldAt s u f).run C.P w = .ok z w ∧ gam E r = some z := by
  unfold fieldAd at h
  split at h
  · rename_i p he
    cases he
    obtain ⟨x, hx, rfl⟩ := ptr_gam hu
    split at h
    · rename_i o ho
      cases h
      obtain ⟨fs, g, sz, hfs, hg, rfl, hsz⟩ := fieldSz_und ho
      refine ⟨.pointer (some ⟨x, p.2 + g.offset, none⟩), ?_, ?_⟩
      · simp only [Instr.fieldAt, Sem.run_bind, run_und ok hfs, Result.andThen_ok, hg, Instr.sureAddr, Sem.run_pure, fieldPlace, run_size ok hsz, Nat.succ_ne_zero, if_false, add_eq]
      · simp only [gam, ptrOf, hx]; rfl
    · cases h
  · cases h
theorem fieldV_sound (ok : CxOk C) {t : TypeId} {f : Nat} {a r : AVal} (h : fieldV C t f (some a) = some r) {u : Value} (hu : gam E a = some u) (w : World) : ∃ z, (Instr.field t u f).run C.P w = .ok z w ∧ gam E r = some z := by
  unfold fieldV at h
  split at h
  · rename_i cs he
    cases he
    obtain ⟨V, rfl, hV⟩ := agg_gam hu
    split at h
    · rename_i os hos
      obtain ⟨fs, g, hfs, hg, ho, hs⟩ := field_und hos
      rw [← ho] at h
      obtain ⟨z, hz, hgz⟩ := run_part ok hs hV h w
      exact ⟨z, by simp only [Instr.field, Sem.run_bind, run_und ok hfs, Result.andThen_ok, hg, asAgg, Sem.run_pure, hz], hgz⟩
    · cases h
  · cases h
theorem atIx_some {p : Nat × Nat} {i m s : Nat} {r : AVal} (h : atIx p i m s = some r) : i < m ∧ r = .ptr (some (p.1, p.2 + i * s)) := by
  obtain ⟨h1, h2⟩ := cnd_some h
  exact ⟨Nat.le_of_ble_eq_true h1, by injection h2 with h2; exact h2.symm⟩
theorem indexAd_sound (ok : CxOk C) {t : TypeId} {a ix r : AVal} (h : indexAd C t (some a) (some ix) = some r) {u v : Value} (hu : gam E a = some u) (hv : gam E ix = some v) (w : World) :
    ∃ z, (Instr.indexAt t u v).run C.P w = .ok z w ∧ gam E r = some z := by
  unfold indexAd at h
  split at h
  · rename_i k i he
    cases he
    rw [int_gam hv]
    split at h
    · rename_i p m c he
      cases he
      split at h
      · rename_i es hes
        obtain ⟨ht, hsz, _⟩ := elem_und hes
        obtain ⟨hi, rfl⟩ := atIx_some h
        have hc : ∀ d k s, c ≠ .edge d k s := fun d k s e => by subst e; have := (edge_gam hu).1; omega
        obtain ⟨q, y, rfl, hq⟩ := slice_ptr hu hc
        obtain ⟨b, o⟩ := p
        simp only [ptrOf] at hq
        cases hb : E.ν b with
        | none => simp [hb] at hq
        | some x =>
          simp [hb] at hq; subst hq
          have hlt : (0 : Int) ≤ Int.ofNat i ∧ Int.ofNat i < (m : Int) := ⟨by simp, by simp; omega⟩
          refine ⟨.pointer (some ⟨x, o + i * es.2, none⟩), ?_, ?_⟩
          · simp only [Instr.indexAt, asIntOf, Sem.run_bind, Sem.run_pure, Result.andThen_ok, run_und ok ht, if_pos hlt, run_size ok hsz]
            simp [add_eq]
          · simp only [gam, ptrOf, hb]
      · cases h
    · rename_i p he
      cases he
      split at h
      · rename_i ar har
        obtain ⟨ht, hsz⟩ := arr_und har
        obtain ⟨hi, rfl⟩ := atIx_some h
        obtain ⟨x, hx, rfl⟩ := ptr_gam hu
        have hlt : (0 : Int) ≤ Int.ofNat i ∧ Int.ofNat i < (ar.1 : Int) := ⟨by simp, by simp; omega⟩
        refine ⟨.pointer (some ⟨x, p.2 + i * ar.2.2, none⟩), ?_, ?_⟩
        · simp only [Instr.indexAt, asIntOf, Sem.run_bind, Sem.run_pure, Result.andThen_ok, run_und ok ht, Instr.sureAddr, if_pos hlt, run_size ok hsz]
          simp [add_eq]
        · simp only [gam, ptrOf, hx]
      · cases h
    · cases h
  · cases h
theorem strOf_get {s : List Nat} {i b : Nat} (h : s[i]? = some b) : (strOf s)[i]? = some (UInt8.ofNat b) := by
  have hlt : i < s.length := (List.getElem?_eq_some_iff.1 h).1
  have hget : s[i] = b := (List.getElem?_eq_some_iff.1 h).2
  have h2 : i < (strOf s).size := by rw [strOf_size]; exact hlt
  rw [getElem?_pos (strOf s) i h2]
  congr 1
  show (strOf s).data[i] = _
  simp [strOf, hget]
theorem indexV_sound (ok : CxOk C) {t : TypeId} {a ix r : AVal} (h : indexV C t (some a) (some ix) = some r) {u v : Value} (hu : gam E a = some u) (hv : gam E ix = some v) (w : World) :
    ∃ z, (Instr.index t u v).run C.P w = .ok z w ∧ gam E r = some z := by
  unfold indexV at h
  split at h
  · rename_i k i he
    cases he
    rw [int_gam hv]
    split at h
    · rename_i s he
      cases he
      split at h
      · rename_i ht
        split at h
        · rename_i b hb
          cases h
          rw [nth_eq] at hb
          rw [str_gam hu]
          have h0 : (0 : Int) ≤ Int.ofNat i := by simp
          refine ⟨.int .u8 (UInt8.ofNat b).toNat, ?_, ?_⟩
          · simp only [Instr.index, asIntOf, Sem.run_bind, Sem.run_pure, Result.andThen_ok, run_und ok ht, if_pos h0]
            have : (strOf s)[(Int.ofNat i).toNat]? = some (UInt8.ofNat b) := strOf_get hb
            rw [this]; rfl
          · simp only [gam]; simp; rfl
        · cases h
      · cases h
    · rename_i cs he
      cases he
      obtain ⟨V, rfl, hV⟩ := agg_gam hu
      split at h
      · rename_i ar har
        obtain ⟨ht, hsz⟩ := arr_und har
        split at h
        · rename_i sh hsh
          obtain ⟨h1, h2⟩ := cnd_some h
          have h1 := Nat.le_of_ble_eq_true h1
          have hlt : (0 : Int) ≤ Int.ofNat i ∧ Int.ofNat i < (ar.1 : Int) := ⟨by simp, by simp; omega⟩
          obtain ⟨z, hz, hgz⟩ := run_part ok hsh hV h2 w
          refine ⟨z, ?_, hgz⟩
          simp only [Instr.index, asIntOf, Sem.run_bind, Sem.run_pure, Result.andThen_ok, run_und ok ht, if_pos hlt, run_size ok hsz]
          exact hz
        · cases h
      · cases h
    · cases h
  · cases h

/-! ### Maps -/
theorem keyK_und (ok : CxOk C) {t e : TypeId} (h : mapT C t = some e) : ∃ kt, und C t = some (.map kt e) ∧ und C kt = some .string := by
  unfold mapT at h
  split at h
  · rename_i kt e' he
    obtain ⟨h1, h2⟩ := cnd_some h
    injection h2 with h2; subst h2
    unfold keyK at h1
    split at h1
    · rename_i hk; exact ⟨kt, he, hk⟩
    · cases h1
  · cases h
theorem entries_sound (hr : HR C.P E H w) {r : Option Nat} {es : List (AVal × AVal × Nat)} (h : entries H r = some es) {u : Value} (hu : gam E (.map r) = some u) :
    (u = .map none ∧ es = []) ∨ ∃ (i b : Nat) (l : List MapEntry) (c : Nat), r = some i ∧ u = .map (some b) ∧ E.ν i = some b ∧ H.get i = some (.map es c) ∧ gamE E es = some l ∧ w.heap[b]? = some (.map l.toArray c) := by
  cases r with
  | none => cases h; exact .inl ⟨map_gam_none hu, rfl⟩
  | some i =>
    change (match H.get i with
      | some (.map es _) => some es
      | _ => none) = some es at h
    split at h
    · rename_i es' c hi
      cases h
      obtain ⟨b, ob, hb, hw, l, hl, rfl⟩ := hr.obj i _ hi rfl
      refine .inr ⟨i, b, l, c, rfl, ?_, hb, hi, hl, hw⟩
      simp [gam, hb] at hu; exact hu.symm
    · cases h
theorem gamE_cons {k v : AVal} {c : Nat} {l : List (AVal × AVal × Nat)} {m : List MapEntry} (h : gamE E ((k, v, c) :: l) = some m) : ∃ x y r, gam E k = some x ∧ gam E v = some y ∧ gamE E l = some r ∧ m = { key := x, val := y, born := c } :: r := by
  simp only [gamE] at h
  cases hk : gam E k with
  | none => simp [hk] at h
  | some x => cases hv : gam E v with
    | none => simp [hk, hv] at h
    | some y => cases hl : gamE E l with
      | none => simp [hk, hv, hl] at h
      | some r => simp [hk, hv, hl] at h; exact ⟨x, y, r, rfl, rfl, rfl, h.symm⟩
theorem beq_str (a b : List Nat) : (strOf a == strOf b) = eqS a b := by rw [beq_toListBytes, strOf_toList, strOf_toList, eqS_eq]
theorem findA_cons {k : List Nat} {e : AVal × AVal × Nat} {l : List (AVal × AVal × Nat)} {q : Option AVal} (h : findA k (e :: l) = some q) :
    ∃ b, e.1 = .str b ∧ ((eqS k b = true ∧ q = some e.2.1) ∨ (eqS k b = false ∧ findA k l = some q)) := by
  change (match e.1 with
    | .str b => cnd (eqS k b) (some (some e.2.1)) (findA k l)
    | _ => none) = some q at h
  split at h
  · rename_i b hb
    refine ⟨b, hb, ?_⟩
    cases he : eqS k b with
    | true => rw [he] at h; cases h; exact .inl ⟨rfl, rfl⟩
    | false => rw [he] at h; exact .inr ⟨rfl, h⟩
  · cases h
/-- the search in a map over texts; the place counts from 'i' -/
theorem findNow_sound {k : List Nat} : ∀ {es : List (AVal × AVal × Nat)} {l : List MapEntry} {q : Option AVal} (i : Nat), gamE E es = some l → findA k es = some q →
    (q = none ∧ Instr.findNow .string (.string (strOf k)) l i = some none) ∨
    (∃ a u j, q = some a ∧ gam E a = some u ∧ Instr.findNow .string (.string (strOf k)) l i = some (some (i + j, u)))
  | [], l, q, i, hl, h => by
    simp [gamE] at hl; subst hl; cases h; exact .inl ⟨rfl, rfl⟩
  | (x, y, c) :: es, l, q, i, hl, h => by
    obtain ⟨u, v, r, hu, hv, hr, rfl⟩ := gamE_cons hl
    obtain ⟨b, rfl, hcase⟩ := findA_cons h
    rw [str_gam hu]
    simp only [Instr.findNow, Instr.sameNow, beq_str]
    rcases hcase with ⟨he, rfl⟩ | ⟨he, h⟩
    · rw [he]; exact .inr ⟨y, v, 0, rfl, hv, rfl⟩
    · rw [he]
      rcases findNow_sound (i + 1) hr h with ⟨rfl, h2⟩ | ⟨a, z, j, rfl, hz, h2⟩
      · exact .inl ⟨rfl, h2⟩
      · exact .inr ⟨a, z, j + 1, rfl, hz, by rw [h2, show i + 1 + j = i + (j + 1) by omega]⟩
theorem run_checkKey_str (ok : CxOk C) {kt : TypeId} (hk : und C kt = some .string) (e : Bool) (v : Value) (w : World) : (Instr.checkKey e 10000 kt v).run C.P w = .ok () w := by
  unfold Instr.checkKey
  simp only [Sem.run_bind, run_und ok hk, Result.andThen_ok]
  cases v <;> rfl
theorem run_findKey_str (ok : CxOk C) {kt : TypeId} (hk : und C kt = some .string) {k : List Nat} {l : List MapEntry} {r : Option (Nat × Value)} (h : Instr.findNow .string (.string (strOf k)) l 0 = some r) (w : World) :
    (Instr.findKey kt (.string (strOf k)) l).run C.P w = .ok r w := by
  simp only [Instr.findKey, Sem.run_bind, run_und ok hk, Result.andThen_ok, h, Sem.run_pure]
theorem run_getObj_map {b : Nat} {l : Array MapEntry} {c : Nat} {P : Program} (h : w.heap[b]? = some (.map l c)) : (getObj b).run P w = .ok (.map l c) w := by simp [getObj, Sem.run, h]
theorem lookA_sound (ok : CxOk C) (hr : HR C.P E H w) {t : TypeId} {m k r : AVal} {cok : Bool} (h : lookA C H t m k cok = some r) {u v : Value} (hu : gam E m = some u) (hv : gam E k = some v) :
    ∃ z, (Instr.lookup t u v cok).run C.P w = .ok z w ∧ gam E r = some z := by
  unfold lookA at h
  split at h
  · rename_i mr
    split at h
    · rename_i ks
      split at h
      · rename_i e hT
        obtain ⟨kt, ht, hk⟩ := keyK_und ok hT
        split at h
        · rename_i es hes
          rw [str_gam hv]
          have key : ∀ (l : List MapEntry), gamE E es = some l → ∃ z, ((do
              Instr.checkKey l.toArray.isEmpty 10000 kt (.string (strOf ks))
              let (v, ok) ← match ← Instr.findKey kt (.string (strOf ks)) l.toArray.toList with
                | some (_, v) => pure (v, true)
                | none => pure (← zeroValue e, false)
              pure (if cok then .tuple #[v, .bool ok] else v) : Sem Value)).run C.P w = .ok z w ∧ gam E r = some z := by
            intro l hl
            split at h
            · rename_i a ha
              cases h
              rcases findNow_sound 0 hl ha with ⟨h0, _⟩ | ⟨a', z, j, h1, hz, h2⟩
              · cases h0
              · cases h1
                have h2 := run_findKey_str ok hk h2 w
                cases cok with
                | true => exact ⟨.tuple #[z, .bool true], by simp [run_checkKey_str ok hk, h2], by simp [gam, gams, cnd, hz]⟩
                | false => exact ⟨z, by simp [run_checkKey_str ok hk, h2], hz⟩
            · rename_i ha
              split at h
              · rename_i za hza
                cases h
                obtain ⟨z, hz, hgz⟩ := zero_sound ok hza
                rcases findNow_sound 0 hl ha with ⟨_, h2⟩ | ⟨a', z, j, h1, _⟩
                · have h2 := run_findKey_str ok hk h2 w
                  cases cok with
                  | true => exact ⟨.tuple #[z, .bool false], by simp [run_checkKey_str ok hk, h2, hz], by simp [gam, gams, cnd, hgz E]⟩
                  | false => exact ⟨z, by simp [run_checkKey_str ok hk, h2, hz], hgz E⟩
                · cases h1
              · cases h
            · cases h
          rcases entries_sound hr hes hu with ⟨rfl, rfl⟩ | ⟨i, b, l, c, rfl, rfl, hb, hi, hl, hw⟩
          · obtain ⟨z, hz, hgz⟩ := key [] rfl
            refine ⟨z, ?_, hgz⟩
            rw [← hz]
            simp only [Instr.lookup, Sem.run_bind, run_und ok ht, Result.andThen_ok, Sem.run_pure]
            rfl
          · obtain ⟨z, hz, hgz⟩ := key l hl
            refine ⟨z, ?_, hgz⟩
            rw [← hz]
            simp only [Instr.lookup, Sem.run_bind, run_und ok ht, Result.andThen_ok, run_getObj_map hw, Sem.run_pure]
            rfl
        · cases h
      · cases h
    · cases h
  · cases h
end
end Go.Ev
