import Derived.Test.YtbaaklcoafgcdaaGreatEvX
import Derived.Great.BuildSlice
set_option linter.unusedVariables false
set_option linter.unusedSimpArgs false
namespace Go.Ev
section
variable {C : Cx} {E : Env} {H : AHp} {w : World} {n : Nat} {T : Tm} {A : Array Value}
/-! ### Literals -/
def partsG (E : Env) : List (Nat × AVal) → List (Nat × Value) → Prop
  | [], [] => True
  | (i, a) :: l, (j, v) :: m => i = j ∧ gam E a = some v ∧ partsG E l m
  | _, _ => False
theorem evParts_sound (ht : TR E n T A) : ∀ {l : List (Nat × Operand)} {ps : List (Nat × AVal)}, evParts T l = some ps → partsG E ps (l.map fun x => (x.1, evalA A x.2))
  | [], ps, h => by cases h; trivial
  | x :: l, ps, h => by
    change (match ev T x.2 with
      | some a => match evParts T l with
        | some as => some ((x.1, a) :: as)
        | none => none
      | none => none) = some ps at h
    cases hx : ev T x.2 with
    | none => rw [hx] at h; cases h
    | some a => cases hl : evParts T l with
      | none => rw [hx, hl] at h; cases h
      | some r => rw [hx, hl] at h; cases h; exact ⟨rfl, ev_sound ht hx, evParts_sound ht hl⟩
theorem zip_over : ∀ (l : List Value) (k off : Nat) (V : Array Value), (l.zipIdx k).foldl (fun cs (x : Value × Nat) => cs.setIfInBounds (off + x.2) x.1) V = over V (off + k) l
  | [], k, off, V => rfl
  | v :: l, k, off, V => by
    simp only [List.zipIdx_cons, List.foldl_cons, over]
    rw [zip_over l (k + 1) off]
    rfl
theorem fill_sound {place place' : Nat → Option (Nat × Nat)} (hp : ∀ i, place i = place' i) : ∀ (l : List (Nat × AVal)) (m : List (Nat × Value)) (cells cs : List AVal) (V : Array Value), fillP place l cells = some cs → gams E cells = some V.toList → partsG E l m →
    ∃ V' : Array Value, Instr.fill place' V m = some V' ∧ gams E cs = some V'.toList
  | [], [], cells, cs, V, h, hg, _ => by cases h; exact ⟨V, rfl, hg⟩
  | [], _ :: _, _, _, _, _, _, h => h.elim
  | _ :: _, [], _, _, _, _, _, h => h.elim
  | (i, a) :: l, (j, v) :: m, cells, cs, V, h, hg, ⟨hij, ha, hm⟩ => by
    subst hij
    change (match place i with
      | none => none
      | some p => cnd (Nat.beq (len a.cells) p.2) (cnd (Nat.ble (Nat.add p.1 p.2) (len cells)) (fillP place l (setAt p.1 a.cells cells)) none) none) = some cs at h
    simp only [Instr.fill, ← hp i]
    split at h
    · cases h
    · rename_i p hpi
      obtain ⟨off, size⟩ := p
      obtain ⟨h1, h⟩ := cnd_some h
      obtain ⟨h2, h⟩ := cnd_some h
      have h1 := beq_iff.1 h1
      have h2 := Nat.le_of_ble_eq_true h2
      rw [len_eq] at h1 h2
      dsimp only at h1 h2 h
      have h2 : off + size ≤ cells.length := h2
      have hc := gam_cells ha
      have hlc := gams_len hc
      have hlV := gams_len hg
      simp only [Array.length_toList] at hlc hlV
      have hcond : (v.cells.size != size || decide (off + v.cells.size > V.size)) = false := by
        simp; omega
      rw [hpi]
      simp only
      have hif : ¬ (v.cells.size ≠ size ∨ off + v.cells.size > V.size) := by omega
      have e : (v.cells.zipIdx.foldl (fun cs (x : Value × Nat) => cs.setIfInBounds (off + x.2) x.1) V) = over V off v.cells.toList := by
        rw [← Array.foldl_toList, Array.toList_zipIdx, zip_over]; rfl
      have hbool : (decide (v.cells.size ≠ size) || decide (off + v.cells.size > V.size)) = false := by simp; omega
      simp only [hbool, Bool.false_eq_true, if_false]
      have hg2 : gams E (setAt off a.cells cells) = some (over V off v.cells.toList).toList := by
        rw [setAt_eq off _ _ (by omega), over_toList _ _ _ (by simp; omega)]
        refine gams_append (gams_append (gams_take off hg) hc) ?_
        have : off + a.cells.length = off + v.cells.toList.length := by simp; omega
        rw [this]; exact gams_drop _ hg
      have := fill_sound hp l m _ cs _ h hg2 hm
      obtain ⟨V', h3, h4⟩ := this
      refine ⟨V', ?_, h4⟩
      rw [← h3, ← e]
theorem places_sound (ok : CxOk C) : ∀ (l : List Field) (pl : List (Nat × Nat)), placesOf C l = some pl → l.mapM (fun f => (C.P.info? f.type).map fun i => (f.offset, i.size)) = some pl
  | [], pl, h => by cases h; rfl
  | f :: l, pl, h => by
    change (match sizeOf C f.type with
      | some s => match placesOf C l with
        | some r => some ((f.offset, s) :: r)
        | none => none
      | none => none) = some pl at h
    split at h
    · rename_i s hs
      split at h
      · rename_i r hr
        cases h
        obtain ⟨i, hi, rfl⟩ := size_info ok hs
        simp [info_sound ok hi, places_sound ok l r hr]
      · cases h
    · cases h
theorem placesT_und {t : TypeId} {pl : List (Nat × Nat)} (h : placesT C t = some pl) : ∃ fs, und C t = some (.struct fs) ∧ placesOf C fs.toList = some pl := by
  unfold placesT at h
  split at h
  · rename_i fs hfs; exact ⟨fs, hfs, h⟩
  · cases h
theorem zero_info (ok : CxOk C) {t : TypeId} {a : AVal} (h : zeroOf C t = some a) : ∃ i v, info C t = some i ∧ i.zero = some v ∧ ∀ E, gam E a = some v := by
  unfold zeroOf at h
  cases hi : info C t with
  | none => rw [hi] at h; cases h
  | some i =>
    rw [hi] at h; dsimp only at h
    cases hz : i.zero with
    | none => rw [hz] at h; cases h
    | some v => rw [hz] at h; exact ⟨i, v, rfl, hz, fun E => ofConst_sound E 3 v a h⟩
theorem buildA_sound (ok : CxOk C) {t : TypeId} {ps : List (Nat × AVal)} {r : AVal} (h : buildA C t (some ps) = some r) {qs : Array (Nat × Value)} (hq : partsG E ps qs.toList) (w : World) :
    ∃ z, (Instr.build t qs).run C.P w = .ok z w ∧ gam E r = some z := by
  change (match zeroOf C t with
    | some z => match placesT C t with
      | some pl => match fillP (nth pl) ps z.cells with
        | some cs => some (.agg cs)
        | none => none
      | none => match arrOf C t with
        | some a => match fillP (fun i => some (Nat.mul i a.2.2, a.2.2)) ps z.cells with
          | some cs => some (.agg cs)
          | none => none
        | none => none
    | none => none) = some r at h
  split at h
  · rename_i z hz
    obtain ⟨i, v, hi, hv, hg⟩ := zero_info ok hz
    have hgc := gam_cells (hg E)
    split at h
    · rename_i pl hpl
      obtain ⟨fs, hfs, hpl⟩ := placesT_und hpl
      split at h
      · rename_i cs hcs
        cases h
        obtain ⟨V, hV, hgV⟩ := fill_sound (E := E) (place' := (pl.toArray[·]?)) (fun i => by simp [nth_eq]) ps qs.toList _ cs v.cells hcs hgc hq
        refine ⟨.agg V, run_build w t qs V ?_, by simp [gam, hgV]⟩
        unfold Program.built
        simp only [info_sound ok hi, und_sound ok hfs, hv, places_sound ok _ _ hpl]
        exact hV
      · cases h
    · split at h
      · rename_i ar har
        obtain ⟨ht, hsz⟩ := arr_und har
        obtain ⟨ie, hie, hse⟩ := size_info ok hsz
        split at h
        · rename_i cs hcs
          cases h
          obtain ⟨V, hV, hgV⟩ := fill_sound (E := E) (place' := fun i => some (i * ar.2.2, ar.2.2)) (fun i => rfl) ps qs.toList _ cs v.cells hcs hgc hq
          refine ⟨.agg V, run_build w t qs V ?_, by simp [gam, hgV]⟩
          unfold Program.built
          simp only [info_sound ok hi, und_sound ok ht, hv, info_sound ok hie, hse]
          exact hV
        · cases h
      · cases h
  · cases h
theorem repZ_eq (z : List AVal) (n : Nat) : repZ z (n + 1) = z ++ repZ z n := by show app z (repZ z n) = _; rw [app_eq]
theorem repV {z : Array Value} (hz : 0 < z.size) : ∀ n : Nat, ((Array.range ((n + 1) * z.size)).map (z[· % z.size]!)).toList = z.toList ++ ((Array.range (n * z.size)).map (z[· % z.size]!)).toList := by
  intro n
  simp only [Array.toList_map, Array.toList_range]
  have : (n + 1) * z.size = z.size + n * z.size := by rw [Nat.succ_mul]; omega
  rw [this, List.range_add, List.map_append, List.map_map]
  congr 1
  · apply List.ext_getElem
    · simp
    · intro i h1 h2
      simp at h1
      simp [Nat.mod_eq_of_lt h1, getElem!_pos z i h1]
  · apply List.map_congr_left
    intro i hi
    simp
theorem repZ_gams {z : List AVal} {Z : Array Value} (hz : gams E z = some Z.toList) (hs : 0 < Z.size) : ∀ n, gams E (repZ z n) = some ((Array.range (n * Z.size)).map (Z[· % Z.size]!)).toList
  | 0 => by simp [repZ, gams]
  | n + 1 => by rw [repZ_eq, repV hs]; exact gams_append hz (repZ_gams hz hs n)
theorem zeroCs_sound (ok : CxOk C) {t : TypeId} {z : List AVal} (h : zeroCs C t = some z) : ∃ i v, info C t = some i ∧ i.zero = some v ∧ (∀ E, gams E z = some v.cells.toList) ∧ allOne z = true := by
  unfold zeroCs at h
  split at h
  · rename_i a ha
    obtain ⟨h1, h2⟩ := cnd_some h
    injection h2 with h2
    subst h2
    obtain ⟨i, v, hi, hv, hg⟩ := zero_info ok ha
    exact ⟨i, v, hi, hv, fun E => gam_cells (hg E), h1⟩
  · cases h

/-! ### Conversions -/
theorem convPlain_int (ok : CxOk C) {s d : TypeId} {H : AHp} {k0 : IntKind} {i : Int} {r : AVal} (h : convA C H s d (.int k0 i) = some r) (w : World) : ∃ z, (Go.convert s d (.int k0 i)).run C.P w = .ok z w ∧ gam E r = some z := by
  change (match und C s with
    | some (.int _) => match und C d with
      | some (.int k) => some (.int k (wrapF k i))
      | some (.float .f64) => some (.flt .f64 (FloatKind.f64.nearest i))
      | _ => none
    | _ => none) = some r at h
  split at h
  · rename_i ks hs
    split at h
    · rename_i k hd
      cases h
      exact ⟨_, by simp only [Go.convert, Sem.run_bind, run_und ok hs, run_und ok hd, Result.andThen_ok, Conv.intToInt, Sem.run_pure]; rfl, by simp only [gam, wrapF_eq]⟩
    · rename_i hd
      cases h
      exact ⟨_, by simp only [Go.convert, Sem.run_bind, run_und ok hs, run_und ok hd, Result.andThen_ok, Conv.intToFloat, Sem.run_pure]; rfl, by simp only [gam]⟩
    · cases h
  · cases h
theorem lo_min (k : IntKind) : lo k = k.min := by cases k <;> decide
theorem hi_max (k : IntKind) : (Int.ofNat (hi k)) = k.max + 1 := by cases k <;> decide
theorem convPlain_flt (ok : CxOk C) {s d : TypeId} {H : AHp} {b : Nat} {r : AVal} (h : convA C H s d (.flt .f64 b) = some r) (w : World) : ∃ z, (Go.convert s d (.float .f64 b)).run C.P w = .ok z w ∧ gam E r = some z := by
  change (match und C s with
    | some (.float _) => match und C d with
      | some (.int k) => fltInt k b
      | some (.float .f64) => some (.flt .f64 b)
      | _ => none
    | _ => none) = some r at h
  split at h
  · rename_i ks hs
    split at h
    · rename_i k hd
      unfold fltInt at h
      split at h
      · rename_i m hm
        cases h1 : ltI m (lo k) with
        | true => rw [h1] at h; cases h
        | false =>
          rw [h1] at h
          obtain ⟨h2, h⟩ := cnd_some (show cnd (ltI m (.ofNat (hi k))) (some (AVal.int k m)) none = some r from h)
          cases h
          rw [ltI_eq] at h1 h2
          rw [lo_min] at h1
          rw [hi_max] at h2
          have h1 : ¬ m < k.min := by simpa using h1
          have h2 : m < k.max + 1 := by simpa using h2
          have hc : k.min ≤ m ∧ m ≤ k.max := by omega
          exact ⟨.int k m, by simp only [Go.convert, Sem.run_bind, run_und ok hs, run_und ok hd, Result.andThen_ok, Conv.floatToInt, hm, if_pos hc, Sem.run_pure], rfl⟩
      · cases h
    · rename_i hd
      cases h
      exact ⟨.float .f64 b, by simp only [Go.convert, Sem.run_bind, run_und ok hs, run_und ok hd, Result.andThen_ok, Conv.floatToFloat, if_true, Sem.run_pure], rfl⟩
    · cases h
  · cases h
theorem bytesOfCells_cons {a : AVal} {l : List AVal} {bs : List Nat} (h : bytesOfCells (a :: l) = some bs) : ∃ m r, a = .int .u8 (.ofNat m) ∧ bytesOfCells l = some r ∧ bs = m % 256 :: r := by
  change (match (generalizing := false) a with
    | .int .u8 (.ofNat n) => match bytesOfCells l with
      | some r => some (Nat.mod n 256 :: r)
      | none => none
    | _ => none) = some bs at h
  split at h
  · rename_i m
    split at h
    · rename_i r hr; cases h; exact ⟨m, r, rfl, hr, rfl⟩
    · cases h
  · cases h
theorem bytes_ints : ∀ {l : List AVal} {bs : List Nat} {vs : List Value}, bytesOfCells l = some bs → gams E l = some vs → ∃ ns : List Int, vs = ns.map (Value.int .u8) ∧ ns.map (fun i => UInt8.ofNat i.toNat) = bs.map UInt8.ofNat
  | [], bs, vs, h, hg => by cases h; cases hg; exact ⟨[], rfl, rfl⟩
  | a :: l, bs, vs, h, hg => by
    obtain ⟨m, r, rfl, hr, rfl⟩ := bytesOfCells_cons h
    obtain ⟨x, y, hx, hy, rfl⟩ := gams_cons.1 hg
    obtain ⟨ns, rfl, h2⟩ := bytes_ints hr hy
    refine ⟨(m : Int) :: ns, by rw [int_gam hx]; rfl, ?_⟩
    simp only [List.map_cons, h2]
    congr 1
    rw [← UInt8.toNat_inj]; simp
theorem foldl_push : ∀ (ns : List Int) (r : ByteArray), ns.foldl (fun r n => r.push (UInt8.ofNat n.toNat)) r = ⟨r.data ++ (ns.map fun i => UInt8.ofNat i.toNat).toArray⟩
  | [], r => by simp
  | n :: ns, r => by
    simp only [List.foldl_cons, foldl_push ns]
    apply ByteArray.ext
    apply Array.ext'
    simp
theorem convPlain_slice (ok : CxOk C) (hr : HR C.P E H w) {s d : TypeId} {a : Option (Nat × Nat)} {m : Nat} {c : Cap} {r : AVal} (h : convA C H s d (.slice a m c) = some r) {u : Value} (hu : gam E (.slice a m c) = some u) :
    ∃ z, (Go.convert s d u).run C.P w = .ok z w ∧ gam E r = some z := by
  change (match und C s with
    | some (.slice e) => match und C e with
      | some (.int .u8) => match und C d with
        | some .string => match sizeOf C e with
          | some 1 => match sliceCells H 1 a m with
            | some cs => match bytesOfCells cs with
              | some b => some (.str b)
              | none => none
            | none => none
          | _ => none
        | _ => none
      | _ => none
    | _ => none) = some r at h
  split at h
  · rename_i e hs
    split at h
    · rename_i he
      split at h
      · rename_i hd
        split at h
        · rename_i hsz
          split at h
          · rename_i cs hcs
            split at h
            · rename_i b hb
              cases h
              obtain ⟨V, hV, hgV⟩ := firstCells_sound ok hr hu (Nat.le_refl _) hcs
              obtain ⟨p, y, rfl, hp⟩ := slice_gam hu
              obtain ⟨ns, hns, hbs⟩ := bytes_ints hb hgV
              have hVe : V = (ns.map (Value.int .u8)).toArray := by apply Array.ext'; rw [hns]
              have fin : strOf b = ns.foldl (fun r n => r.push (UInt8.ofNat n.toNat)) ByteArray.empty := by
                rw [foldl_push, hbs]; apply ByteArray.ext; simp [strOf]
              cases p with
              | none =>
                have hV0 : V = #[] := by simpa [Builtin.firstCells] using hV.symm
                have hns0 : ns = [] := by
                  cases ns with
                  | nil => rfl
                  | cons q ns => rw [hV0] at hVe; have := congrArg Array.size hVe; simp at this
                refine ⟨.string .empty, ?_, ?_⟩
                · simp only [Go.convert, Sem.run_bind, run_und ok hs, run_und ok hd, run_und ok he, Result.andThen_ok, Conv.bytesToString, Sem.run_pure]
                · simp only [gam, fin, hns0]; rfl
              | some q =>
                have hl : (loadCells q m).run C.P w = .ok (ns.map (Value.int .u8)).toArray w := by
                  rw [← hVe]; simpa [Builtin.firstCells] using hV
                refine ⟨.string (strOf b), ?_, rfl⟩
                simp only [Go.convert, Sem.run_bind, run_und ok hs, run_und ok hd, run_und ok he, Result.andThen_ok]
                rw [run_bytesToString w q m y ns hl, fin]
            · cases h
          · cases h
        · cases h
      · cases h
    · cases h
  · cases h
theorem convA_sound (ok : CxOk C) (hr : HR C.P E H w) {s d : TypeId} {x r : AVal} (h : convA C H s d x = some r) {u : Value} (hu : gam E x = some u) :
    ∃ z, (Go.convert s d u).run C.P w = .ok z w ∧ gam E r = some z := by
  cases x
  case int k i => rw [int_gam hu]; exact convPlain_int ok h w
  case flt k b =>
    cases k with
    | f32 => cases h
    | f64 => simp only [gam] at hu; cases hu; exact convPlain_flt ok h w
  case str b =>
    change (match und C s with
      | some .string => match und C d with
        | some .string => some (.str b)
        | _ => none
      | _ => none) = some r at h
    split at h
    · rename_i hs
      split at h
      · rename_i hd
        cases h
        rw [str_gam hu]
        exact ⟨.string (strOf b), by simp only [Go.convert, Sem.run_bind, run_und ok hs, run_und ok hd, Result.andThen_ok, Sem.run_pure], rfl⟩
      · cases h
    · cases h
  case slice a m c => exact convPlain_slice ok hr h hu
  all_goals cases h
end
end Go.Ev
