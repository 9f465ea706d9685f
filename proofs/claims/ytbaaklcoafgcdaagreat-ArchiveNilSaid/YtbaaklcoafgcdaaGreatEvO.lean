import Derived.Test.YtbaaklcoafgcdaaGreatEvM
set_option linter.unusedVariables false
set_option linter.unusedSimpArgs false
namespace Go.Ev
def evalA (A : Array Value) : Operand → Value
  | .tmp t => A.getD t undef
  | .const v => v
  | .global g => .pointer (some ⟨g, 0, none⟩)
  | .func f => .func (.func f) #[] #[]
theorem frame_eval (fr : Frame) : fr.eval = evalA fr.tmps := by funext x; cases x <;> rfl
structure CxOk (C : Cx) : Prop where
  ty : ∀ t i, C.ty.get t = some i → C.P.info? t = some i
  fs : ∀ f fn, C.fs.get f = some fn → C.P.funcs[f]? = some fn
  eqs : ∀ t, memN t C.eqs = true → C.P.stoodInHeld t = false ∧ C.P.eqGuardType C.P.depth t = false
  mixed : C.P.follows .mixedOrders = true
  ex : ∀ f, extOf C f = none
  call : ∀ f, callable C f = true → ∀ args w, (callFunc f args).run C.P w = .ok (.enter f args) w
section
variable {C : Cx} (ok : CxOk C) {E : Env} {w : World}
include ok
theorem info_sound {t : TypeId} {i : TypeInfo} (h : info C t = some i) : C.P.info? t = some i := ok.ty t i h
theorem und_sound {t : TypeId} {d : TypeDesc} (h : und C t = some d) : C.P.underlying t = some d := by
  unfold und at h
  cases hi : info C t with
  | none => rw [hi] at h; cases h
  | some i =>
    rw [hi] at h
    have := info_sound ok hi
    unfold Program.underlying
    rw [this]
    obtain ⟨desc, _, _, _, _, _, _, _, _, _⟩ := i
    dsimp only at h ⊢
    cases desc with
    | named n u =>
      dsimp only at h ⊢
      cases hj : info C u with
      | none => rw [hj] at h; cases h
      | some j => rw [hj] at h; rw [info_sound ok hj]; simpa using h
    | _ => simpa using h
theorem run_und {t : TypeId} {d : TypeDesc} (h : und C t = some d) (w : World) : (underlying t).run C.P w = .ok d w := run_underlying (und_sound ok h) w
theorem run_info {t : TypeId} {i : TypeInfo} (h : info C t = some i) (w : World) : (typeInfo t).run C.P w = .ok i w := run_typeInfo w (info_sound ok h)
theorem size_info {t : TypeId} {s : Nat} (h : sizeOf C t = some s) : ∃ i, info C t = some i ∧ i.size = s := by
  have _ := ok.mixed
  unfold sizeOf at h
  cases hi : info C t with
  | none => rw [hi] at h; cases h
  | some i => rw [hi] at h; exact ⟨i, rfl, by simpa using h⟩
theorem run_size {t : TypeId} {s : Nat} (h : sizeOf C t = some s) (w : World) : (Go.sizeOf t).run C.P w = .ok s w := by
  obtain ⟨i, hi, rfl⟩ := size_info ok h
  simp [Go.sizeOf, run_info ok hi]
theorem cellsOf_eq {t : TypeId} {s : Nat} (h : sizeOf C t = some s) : C.P.cellsOf t = s := by
  obtain ⟨i, hi, rfl⟩ := size_info ok h
  simp [Program.cellsOf, info_sound ok hi]
theorem run_isAgg {t : TypeId} {d : TypeDesc} (h : und C t = some d) (w : World) : (isAgg t).run C.P w = .ok (isAggD d) w := by
  unfold isAgg
  simp only [Sem.run_bind, run_und ok h, Result.andThen_ok]
  cases d <;> rfl
end
theorem strOf_id (s : ByteArray) : strOf (s.data.toList.map (·.toNat)) = s := by
  unfold strOf
  rw [List.map_map]
  have : (UInt8.ofNat ∘ fun x => x.toNat) = id := by funext x; simp
  rw [this]; simp
mutual
theorem ofConst_sound (E : Env) : ∀ (d : Nat) (v : Value) (a : AVal), ofConst d v = some a → gam E a = some v
  | d, .bool b, a, h | d, .int k n, a, h | d, .float k b, a, h | d, .complex k x y, a, h | d, .pointer none, a, h | d, .map none, a, h | d, .nilFunc, a, h | d, .nilIface, a, h => by
    simp only [ofConst] at h; cases h; simp [gam, ptrOf]
  | d, .string s, a, h => by simp only [ofConst] at h; cases h; simp only [gam, strOf_id]
  | d, .slice none 0 0, a, h => by simp only [ofConst] at h; cases h; simp [gam, sliceOf]; rfl
  | d + 1, .agg cs, a, h => by
    simp only [ofConst] at h
    cases hc : ofConsts d cs.toList with
    | none => rw [hc] at h; cases h
    | some l => rw [hc] at h; cases h; simp only [gam, ofConsts_sound E d _ _ hc]
  | d + 1, .tuple cs, a, h => by
    simp only [ofConst] at h
    cases hc : ofConsts d cs.toList with
    | none => rw [hc] at h; cases h
    | some l => rw [hc] at h; cases h; simp only [gam, ofConsts_sound E d _ _ hc]
  | 0, .agg cs, a, h | 0, .tuple cs, a, h => by simp [ofConst] at h
  | d, .pointer (some _), a, h | d, .map (some _), a, h | d, .chan _, a, h | d, .func _ _ _, a, h | d, .iface _ _, a, h | d, .slice (some _) _ _, a, h | d, .slice none (_ + 1) _, a, h | d, .slice none 0 (_ + 1), a, h => by simp [ofConst] at h
theorem ofConsts_sound (E : Env) : ∀ (d : Nat) (l : List Value) (as : List AVal), ofConsts d l = some as → gams E as = some l
  | d, [], as, h => by simp only [ofConsts] at h; cases h; rfl
  | d, v :: l, as, h => by
    simp only [ofConsts] at h
    cases hv : ofConst d v with
    | none => rw [hv] at h; cases h
    | some a => cases hl : ofConsts d l with
      | none => rw [hv, hl] at h; cases h
      | some r => rw [hv, hl] at h; cases h; exact gams_cons.2 ⟨v, l, ofConst_sound E d v a hv, ofConsts_sound E d l r hl, rfl⟩
end
section
variable {C : Cx} {E : Env} {w : World} {n : Nat} {T : Tm} {A : Array Value}
theorem ev_sound (ht : TR E n T A) {x : Operand} {a : AVal} (h : ev T x = some a) : gam E a = some (evalA A x) := by
  cases x with
  | tmp t =>
    obtain ⟨v, hv, hg⟩ := ht.2 t a h
    simp only [evalA]
    rw [Array.getD_eq_getD_getElem?, hv]; exact hg
  | const v => exact ofConst_sound E 3 v a h
  | global g => cases h
  | func f => cases h; simp [gam, gams, evalA]
theorem evs_nil : evs T [] = some [] := rfl
theorem evs_cons {x : Operand} {l : List Operand} {as : List AVal} (h : evs T (x :: l) = some as) : ∃ a r, ev T x = some a ∧ evs T l = some r ∧ as = a :: r := by
  change (match ev T x with
    | some a => match evs T l with
      | some as => some (a :: as)
      | none => none
    | none => none) = some as at h
  cases hx : ev T x with
  | none => rw [hx] at h; cases h
  | some a => cases hl : evs T l with
    | none => rw [hx, hl] at h; cases h
    | some r => rw [hx, hl] at h; cases h; exact ⟨a, r, rfl, rfl, rfl⟩
theorem evs_sound (ht : TR E n T A) : ∀ {l : List Operand} {as : List AVal}, evs T l = some as → gams E as = some (l.map (evalA A))
  | [], as, h => by rw [evs_nil] at h; cases h; rfl
  | x :: l, as, h => by
    obtain ⟨a, r, hx, hl, rfl⟩ := evs_cons h
    exact gams_cons.2 ⟨_, _, ev_sound ht hx, evs_sound ht hl, rfl⟩
theorem zero_sound (ok : CxOk C) {t : TypeId} {a : AVal} (h : zeroOf C t = some a) : ∃ v, (∀ w, (zeroValue t).run C.P w = .ok v w) ∧ ∀ E, gam E a = some v := by
  unfold zeroOf at h
  cases hi : info C t with
  | none => rw [hi] at h; cases h
  | some i =>
    rw [hi] at h; dsimp only at h
    cases hz : i.zero with
    | none => rw [hz] at h; cases h
    | some v => rw [hz] at h; exact ⟨v, fun w => by simp [zeroValue, run_info ok hi, hz], fun E => ofConst_sound E 3 v a h⟩
theorem shape_und {t : TypeId} {s : Option Nat} (h : shapeOf C t = some s) : ∃ d sz, und C t = some d ∧ sizeOf C t = some sz ∧ s = if isAggD d then some sz else none := by
  unfold shapeOf at h
  cases hd : und C t with
  | none => rw [hd] at h; cases h
  | some d => cases hs : sizeOf C t with
    | none => rw [hd, hs] at h; cases h
    | some sz =>
      rw [hd, hs] at h; dsimp only at h
      cases ha : isAggD d <;> rw [ha] at h <;> (injection h with h; exact ⟨d, sz, rfl, rfl, by simp [ha, ← h]⟩)
theorem elem_und {t : TypeId} {es : Nat × Nat} (h : elemOf C t = some es) : und C t = some (.slice es.1) ∧ sizeOf C es.1 = some es.2 ∧ 0 < es.2 := by
  unfold elemOf at h
  split at h
  · rename_i e he
    split at h
    · rename_i s hs; cases h; exact ⟨he, hs, Nat.succ_pos _⟩
    · cases h
  · cases h
theorem arr_und {t : TypeId} {a : Nat × Nat × Nat} (h : arrOf C t = some a) : und C t = some (.array a.1 a.2.1) ∧ sizeOf C a.2.1 = some a.2.2 := by
  unfold arrOf at h
  split at h
  · rename_i n e he
    split at h
    · rename_i s hs; cases h; exact ⟨he, hs⟩
    · cases h
  · cases h
theorem field_und {t : TypeId} {f : Nat} {os : Nat × Option Nat} (h : fieldOf C t f = some os) : ∃ fs g, und C t = some (.struct fs) ∧ fs[f]? = some g ∧ g.offset = os.1 ∧ shapeOf C g.type = some os.2 := by
  unfold fieldOf at h
  split at h
  · rename_i fs he
    split at h
    · rename_i g hg
      split at h
      · rename_i s hs; cases h; rw [nth_eq] at hg; exact ⟨fs, g, he, by simpa using hg, rfl, hs⟩
      · cases h
    · cases h
  · cases h
theorem fieldSz_und {t : TypeId} {f o : Nat} (h : fieldSz C t f = some o) : ∃ fs g s, und C t = some (.struct fs) ∧ fs[f]? = some g ∧ g.offset = o ∧ sizeOf C g.type = some (s + 1) := by
  unfold fieldSz at h
  split at h
  · rename_i fs he
    split at h
    · rename_i g hg
      split at h
      · rename_i s hs; cases h; rw [nth_eq] at hg; exact ⟨fs, g, s, he, by simpa using hg, rfl, hs⟩
      · cases h
    · cases h
  · cases h

theorem part_some {cs : List AVal} {off s : Nat} {a : AVal} (h : part cs off (some s) = some a) : off + s ≤ cs.length ∧ a = .agg ((cs.drop off).take s) := by
  change cnd (Nat.ble (Nat.add off s) (len cs)) (some (.agg (takeL s (dropL off cs)))) none = some a at h
  obtain ⟨h1, h2⟩ := cnd_some h
  rw [len_eq] at h1; rw [takeL_eq, dropL_eq] at h2
  exact ⟨Nat.le_of_ble_eq_true h1, by simpa using h2.symm⟩
theorem part_none {cs : List AVal} {off : Nat} {a : AVal} (h : part cs off none = some a) : cs[off]? = some a := by
  change nth cs off = some a at h
  rwa [nth_eq] at h
/-- a part of cells that are read as a whole -/
theorem run_part (ok : CxOk C) {t : TypeId} {s : Option Nat} (hs : shapeOf C t = some s) {cs : List AVal} {vs : Array Value} (hg : gams E cs = some vs.toList) {off : Nat} {a : AVal}
    (h : part cs off s = some a) (w : World) : ∃ u, (Go.part t vs off).run C.P w = .ok u w ∧ gam E a = some u := by
  obtain ⟨d, sz, hd, hsz, rfl⟩ := shape_und hs
  unfold Go.part
  simp only [Sem.run_bind, run_isAgg ok hd, Result.andThen_ok]
  cases ha : isAggD d with
  | true =>
    rw [ha] at h; simp only [if_true] at h
    obtain ⟨h1, rfl⟩ := part_some h
    refine ⟨_, by simp [run_size ok hsz]; rfl, ?_⟩
    simp only [gam, gams_take sz (gams_drop off hg)]
    congr 2
    apply Array.ext'
    simp [List.extract_eq_take_drop]
  | false =>
    rw [ha] at h; simp only [if_false, Bool.false_eq_true] at h
    obtain ⟨v, hv, hga⟩ := gams_get hg (part_none h)
    have hv' : vs[off]? = some v := by simpa using hv
    refine ⟨v, ?_, hga⟩
    simp [hv']
theorem run_part_row (ok : CxOk C) {t : TypeId} {s : Option Nat} (hs : shapeOf C t = some s) {b : Nat} {R : Array Value} {e : TypeId} {fz : Nat × Nat} (hw : w.heap[b]? = some (.cells R e fz))
    {cs : List AVal} {vs rest : List Value} (hR : R.toList = vs ++ rest) (hg : gams E cs = some vs) {off : Nat} {a : AVal}
    (h : part cs off s = some a) : ∃ u, (loadVar t ⟨b, off, none⟩).run C.P w = .ok u w ∧ gam E a = some u := by
  obtain ⟨d, sz, hd, hsz, rfl⟩ := shape_und hs
  unfold loadVar
  simp only [Sem.run_bind, run_isAgg ok hd, Result.andThen_ok]
  have hlen := gams_len hg
  have hsize : R.size = vs.length + rest.length := by rw [← Array.length_toList, hR]; simp
  cases ha : isAggD d with
  | true =>
    rw [ha] at h; simp only [if_true] at h
    obtain ⟨h1, rfl⟩ := part_some h
    have hb : off + sz ≤ R.size := by omega
    refine ⟨.agg (R.extract off (off + sz)), by simp [run_size ok hsz, run_loadCells hw hb], ?_⟩
    simp only [gam, gams_take sz (gams_drop off hg)]
    congr 2
    apply Array.ext'
    simp only [Array.toList_extract, List.extract_eq_take_drop, hR]
    rw [List.drop_append_of_le_length (by omega)]
    have : off + sz - off = sz := by omega
    rw [this, List.take_append_of_le_length (by simp; omega)]
  | false =>
    rw [ha] at h; simp only [if_false, Bool.false_eq_true] at h
    obtain ⟨v, hv, hga⟩ := gams_get hg (part_none h)
    have hv' : R[off]? = some v := by
      rw [← Array.getElem?_toList, hR, List.getElem?_append_left (List.getElem?_eq_some_iff.1 hv).1]; exact hv
    refine ⟨v, ?_, hga⟩
    simp [run_load_row hw hv']
/-- a row that lives -/
theorem row_of {H : AHp} (hr : HR C.P E H w) {b : Nat} {c : List AVal} {e : TypeId} {tl st : Bool} (h : H.get b = some (.cells c e tl st)) :
    ∃ (x : Nat) (R : Array Value) (fz : Nat × Nat) (vs rest : List Value), E.ν b = some x ∧ w.heap[x]? = some (.cells R e fz) ∧ (fz = (0, 0) ∨ (st = true ∧ fz = (R.size, R.size + 1))) ∧
      R.toList = vs ++ rest ∧ gams E c = some vs ∧ (∀ v ∈ rest, v.oneCell' = true) ∧ (bif tl then R.size = E.ρ b * C.P.cellsOf e else rest = []) := by
  obtain ⟨x, ob, hx, hw, hor⟩ := hr.obj b _ h rfl
  obtain ⟨R, fz, vs, rfl, hfz, hg, hc⟩ := hor
  cases tl with
  | true =>
    obtain ⟨⟨rest, h1, h3⟩, h2⟩ := hc
    exact ⟨x, R, fz, vs, rest, hx, hw, hfz, h1, hg, h3, h2⟩
  | false => exact ⟨x, R, fz, vs, [], hx, hw, hfz, by simpa using hc, hg, by simp, rfl⟩
theorem rowAt_some {H : AHp} {b : Nat} {c : List AVal} (h : rowAt H b = some c) : ∃ e tl st, H.get b = some (.cells c e tl st) := by
  unfold rowAt at h
  split at h
  · rename_i c' e tl st hg; cases h; exact ⟨e, tl, st, hg⟩
  · cases h
theorem ptr_gam {p : Nat × Nat} {u : Value} (h : gam E (.ptr (some p)) = some u) : ∃ x, E.ν p.1 = some x ∧ u = .pointer (some ⟨x, p.2, none⟩) := by
  obtain ⟨b, o⟩ := p
  simp only [gam, ptrOf] at h
  cases hb : E.ν b with
  | none => simp [hb] at h
  | some x => simp [hb] at h; exact ⟨x, rfl, h.symm⟩
theorem loadA_sound {H : AHp} (ok : CxOk C) (hr : HR C.P E H w) {t : TypeId} {a v : AVal} {u : Value} (hu : gam E a = some u) (h : loadA C H t a = some v) :
    ∃ r, (Instr.loadAt t u).run C.P w = .ok r w ∧ gam E v = some r ∧ ∃ x o, u = .pointer (some ⟨x, o, none⟩) := by
  unfold loadA at h
  split at h
  · rename_i p
    obtain ⟨x, hx, rfl⟩ := ptr_gam hu
    split at h
    · rename_i c hc
      split at h
      · rename_i s hs
        obtain ⟨e, tl, st, hb⟩ := rowAt_some hc
        obtain ⟨x', R, fz, vs, rest, hx', hw, _, hR, hg, _⟩ := row_of hr hb
        rw [hx] at hx'; cases hx'
        obtain ⟨r, h1, h2⟩ := run_part_row ok hs hw hR hg h
        exact ⟨r, by simp [Instr.loadAt, Instr.sureAddr, h1], h2, x, p.2, rfl⟩
      · cases h
    · cases h
  · cases h
end
end Go.Ev
