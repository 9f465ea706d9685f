import Derived.Test.YtbaaklcoafgcdaaGreatEvZ
set_option linter.unusedVariables false
set_option linter.unusedSimpArgs false
namespace Go.Ev
section
variable {C : Cx} {E : Env} {H : AHp} {w : World} {n : Nat} {T : Tm} {A : Array Value}
/-! ### New blocks -/
theorem run_newRow (P : Program) (w : World) (e : TypeId) (c : Array Value) : (newRow e c).run P w = .ok ⟨w.heap.size, 0, none⟩ (w.alloc (.cells c e)) := by
  simp only [newRow, Sem.run_bind, run_newObj_alloc, Result.andThen_ok, Sem.run_pure]
/-- what an operation that makes a block does -/
structure Makes (P : Program) (E : Env) (w : World) (ao : AObj) (mk : Nat → AVal) (u : Value) (w' : World) : Prop where
  out : ∃ (ob : Obj) (c d : Nat), w' = ({ w with drawn := d } : World).alloc ob ∧ ∀ id, E.ν id = none → OR P (E.put id w.heap.size c) id ao ob ∧ gam (E.put id w.heap.size c) (mk id) = some u
theorem drawn_same (w : World) : ({ w with drawn := w.drawn } : World) = w := rfl
theorem newPtr_makes {P : Program} {cs : List AVal} {V : Array Value} (hg : ∀ E', E.le E' → gams E' cs = some V.toList) (e : TypeId) :
    Makes P E w (.cells cs e false false) (fun i => .ptr (some (i, 0))) (.pointer (some ⟨w.heap.size, 0, none⟩)) (w.alloc (.cells V e)) := by
  refine ⟨.cells V e, 0, w.drawn, rfl, fun id hid => ⟨⟨V, (0, 0), V.toList, rfl, .inl rfl, hg _ (Env.put_le hid), rfl⟩, ?_⟩⟩
  simp [gam, ptrOf, Env.put]
theorem run_markStringish (P : Program) (w : World) (V : Array Value) (e : TypeId) :
    (markStringish ⟨w.heap.size, 0, none⟩).run P (w.alloc (.cells V e)) = .ok () (w.alloc (.cells V e (V.size, V.size + 1))) := by
  have hs : (w.alloc (.cells V e)).shape? w.heap.size = some (e, V.size) := by simp only [World.shape?, heap_push_eq]
  have hf : (w.alloc (.cells V e)).freeze ⟨w.heap.size, V.size, none⟩ 1 = w.alloc (.cells V e (V.size, V.size + 1)) := by
    have : ((w.alloc (.cells V e)).freeze ⟨w.heap.size, V.size, none⟩ 1).heap = (w.alloc (.cells V e (V.size, V.size + 1))).heap := by
      simp only [World.freeze, Nat.one_ne_zero, if_false, alloc_heap]
      apply Array.ext_getElem?
      intro i
      rw [Array.getElem?_modify]
      by_cases h : i = w.heap.size
      · subst h; simp
      · rw [if_neg (Ne.symm h), Array.getElem?_push, Array.getElem?_push, if_neg h, if_neg h]
    show ({ w with heap := ((w.alloc (.cells V e)).freeze ⟨w.heap.size, V.size, none⟩ 1).heap } : World) = _
    rw [this]; rfl
  unfold markStringish
  simp only [Sem.run_bind, shape, Sem.run, Result.andThen_ok, hs, freeze, hf]
theorem bytesCells_gams : ∀ (b : List Nat) (E : Env), gams E (bytesCells b) = some (b.map fun x => Value.int .u8 ((UInt8.ofNat x).toNat : Int))
  | [], E => rfl
  | x :: b, E => by
    show gams E (.int .u8 (.ofNat (Nat.mod x 256)) :: bytesCells b) = _
    refine gams_cons.2 ⟨_, _, rfl, bytesCells_gams b E, ?_⟩
    simp; rfl
theorem bytesCells_len : ∀ b : List Nat, (bytesCells b).length = b.length
  | [] => rfl
  | x :: b => by show (bytesCells b).length + 1 = _; rw [bytesCells_len b]; rfl
theorem alloc_sound (ok : CxOk C) (hr : HR C.P E H w) (ht : TR E n T A) {o : Oper} {p : AObj × (Nat → AVal)} (h : opA C T H o.op = .alloc (some p)) :
    ∃ u w', (execOp (evalA A) o).run C.P w = .ok (.value u) w' ∧ Makes C.P E w p.1 p.2 u w' := by
  have fin : ∀ {s : Sem Value} {z : Value} {w' : World}, s.run C.P w = .ok z w' → (do pure (Next.value (← s)) : Sem Next).run C.P w = .ok (.value z) w' := fun hs => by
    simp only [Sem.run_bind, hs, Result.andThen_ok, Sem.run_pure]
  cases ho : o.op
  case alloc e =>
    rw [ho] at h
    change XO.alloc (newPtr (zeroCs C e) e) = _ at h
    injection h with h
    unfold newPtr at h
    split at h
    · rename_i c hc
      cases h
      obtain ⟨i, v, hi, hv, hg, _⟩ := zeroCs_sound ok hc
      refine ⟨_, _, ?_, newPtr_makes (V := v.cells) (fun E' _ => hg E') e⟩
      have hz : (zeroValue e).run C.P w = .ok v w := by simp [zeroValue, run_info ok hi, hv]
      have : (Instr.alloc e true (.tuple #[])).run C.P w = .ok (.pointer (some ⟨w.heap.size, 0, none⟩)) (w.alloc (.cells v.cells e)) := by
        simp only [Instr.alloc, Sem.run_bind, hz, Result.andThen_ok, newVar, run_newRow, Sem.run_pure]
      simp only [execOp, ho]; exact fin this
    · cases h
  case box e x =>
    rw [ho] at h
    change XO.alloc (newPtr (oneCs (ev T x)) e) = _ at h
    injection h with h
    unfold newPtr at h
    split at h
    · rename_i c hc
      cases h
      unfold oneCs at hc
      split at hc
      · rename_i a ha
        obtain ⟨_, h2⟩ := cnd_some hc
        injection h2 with h2; subst h2
        have hg := gam_cells (ev_sound ht ha)
        refine ⟨_, _, ?_, newPtr_makes (V := (evalA A x).cells) (fun E' le => gams_mono le _ hg) e⟩
        have : (Instr.box e (evalA A x)).run C.P w = .ok (.pointer (some ⟨w.heap.size, 0, none⟩)) (w.alloc (.cells (evalA A x).cells e)) := by
          simp only [Instr.box, Sem.run_bind, newVar, run_newRow, Result.andThen_ok, Sem.run_pure]
        simp only [execOp, ho]; exact fin this
      · cases hc
    · cases h
  case makeMap t r =>
    rw [ho] at h
    change XO.alloc (mapNew r) = _ at h
    injection h with h
    unfold mapNew at h
    split at h
    · cases h
      have : (Instr.makeMap t none).run C.P w = .ok (.map (some w.heap.size)) (w.alloc (.map #[] 0)) := by
        simp only [Instr.makeMap, Sem.run_bind, run_newObj_alloc, Result.andThen_ok, Sem.run_pure]
      refine ⟨.map (some w.heap.size), w.alloc (.map #[] 0), by simp only [execOp, ho]; exact fin this, ⟨.map #[] 0, 0, w.drawn, rfl, fun id hid => ⟨⟨[], rfl, rfl⟩, ?_⟩⟩⟩
      simp [gam, Env.put]
    · cases h
  case buildSlice t k ps =>
    rw [ho] at h
    change XO.alloc (buildS C t k (evParts T ps.toList)) = _ at h
    injection h with h
    cases hps : evParts T ps.toList with
    | none => rw [hps] at h; cases h
    | some qs =>
      rw [hps] at h
      change (match elemOf C t with
        | some es => cnd (Nat.ble (Nat.mul k es.2) 16777216) (match zeroCs C es.1 with
          | some z => cnd (Nat.beq (len z) es.2) (match fillP (fun i => some (Nat.mul i es.2, es.2)) qs (repZ z k) with
            | some cs => cnd (allOne cs) (some (AObj.cells cs es.1 false false, fun i => AVal.slice (some (i, 0)) k (.exact k))) none
            | none => none) none
          | none => none) none
        | none => none) = some p at h
      split at h
      · rename_i es hes
        obtain ⟨ht', hsz, hpos⟩ := elem_und hes
        obtain ⟨hb, h⟩ := cnd_some h
        have hb : k * es.2 ≤ 16777216 := Nat.le_of_ble_eq_true hb
        split at h
        · rename_i z hz
          obtain ⟨hl, h⟩ := cnd_some h
          have hl := beq_iff.1 hl
          rw [len_eq] at hl
          split at h
          · rename_i cs hcs
            obtain ⟨_, h⟩ := cnd_some h
            cases h
            obtain ⟨i, v, hi, hv, hg, _⟩ := zeroCs_sound ok hz
            obtain ⟨ie, hie, hse⟩ := size_info ok hsz
            rw [hi] at hie; cases hie
            have hvs : v.cells.size = es.2 := by have := gams_len (hg E); simp at this; omega
            have hq := evParts_sound ht hps
            have e : (ps.map fun (i, x) => (i, evalA A x)).toList = ps.toList.map fun x => (x.1, evalA A x.2) := by simp
            have hrep := repZ_gams (hg E) (by rw [hvs]; exact hpos) k
            rw [hvs] at hrep
            obtain ⟨V, hV, hgV⟩ := fill_sound (E := E) (place' := fun i => some (i * es.2, es.2)) (fun i => rfl) qs _ _ cs ((Array.range (k * es.2)).map (v.cells[· % es.2]!)) hcs hrep (by rw [← e] at hq; exact hq)
            refine ⟨.slice (some ⟨w.heap.size, 0, none⟩) k k, w.alloc (.cells V es.1), ?_, ⟨.cells V es.1, 0, w.drawn, rfl, fun id hid => ⟨⟨V, (0, 0), V.toList, rfl, .inl rfl, gams_mono (Env.put_le hid) _ hgV, rfl⟩, ?_⟩⟩⟩
            · have run : (Instr.buildSlice t k (ps.map fun (i, x) => (i, evalA A x))).run C.P w = .ok (.slice (some ⟨w.heap.size, 0, none⟩) k k) (w.alloc (.cells V es.1)) := by
                by_cases h0 : k * i.size = 0
                · have hr0 : (Array.range (k * es.2)).map (v.cells[· % es.2]!) = #[] := by rw [← hse, h0]; simp
                  rw [hr0] at hV
                  have hsm : ¬ k * i.size > 2 ^ 24 := by omega
                  simp only [Instr.buildSlice, Sem.run_bind, run_und ok ht', Result.andThen_ok, run_size ok hsz, ← hse, h0, if_true, Sem.run_pure]
                  have hgt : ¬ (0 > 2 ^ 24) := by decide
                  have e2 : ((Array.range 0).map fun (x : Nat) => (#[] : Array Value)[x % (#[] : Array Value).size]!) = #[] := by simp
                  simp only [hgt, if_false, Sem.run_bind, Sem.run_pure, Result.andThen_ok, e2]
                  rw [hse]
                  have hV' : Instr.fill (fun i => some (i * es.2, es.2)) #[] (Array.map (fun (x : Nat × Operand) => (x.1, evalA A x.2)) ps).toList = some V := hV
                  simp only [hV', Sem.run_bind, run_newRow, Result.andThen_ok, Sem.run_pure]
                · refine run_buildSlice w t es.1 k _ V i v (und_sound ok ht') (info_sound ok hi) hv (by rw [hse]; omega) h0 ?_
                  rw [hse, hvs]; exact hV
              simp only [execOp, ho]; exact fin run
            · simp [gam, sliceOf, Env.put, ble_of (Nat.le_refl k)]
          · cases h
        · cases h
      · cases h
  case convert s d x =>
    rw [ho] at h
    change convX C T H s d x = _ at h
    unfold convX at h
    split at h
    · cases h
    · injection h with h
      obtain ⟨a, ha, h⟩ := uno_some h
      unfold bytesNew at h
      split at h
      · rename_i b
        split at h
        · rename_i hs
          split at h
          · rename_i e hd
            split at h
            · rename_i he
              split at h
              · rename_i hsz
                cases h
                have hu := str_gam (ev_sound ht ha)
                let q : Question := .appendCap (strOf b).size 0 e
                let cap := q.cut (w.tape w.drawn q)
                have hcap : b.length ≤ cap := by
                  show b.length ≤ (strOf b).size + _
                  rw [strOf_size]; exact Nat.le_add_right _ _
                let V : Array Value := ((strOf b).data.map fun x => Value.int .u8 x.toNat) ++ Array.replicate (cap - (strOf b).size) (.int .u8 0)
                have hVs : V.size = cap := by
                  have : (strOf b).data.size = b.length := strOf_size b
                  simp only [V, Array.size_append, Array.size_map, Array.size_replicate, this, strOf_size]; omega
                have run : (Conv.stringToBytes e (strOf b)).run C.P w = .ok (.slice (some ⟨w.heap.size, 0, none⟩) (strOf b).size cap) (({ w with drawn := w.drawn + 1 } : World).alloc (.cells V e (V.size, V.size + 1))) := by
                  have hm := run_markStringish C.P { w with drawn := w.drawn + 1 } V e
                  have hch : (choose q).run C.P w = .ok cap { w with drawn := w.drawn + 1 } := by simp [choose, Sem.run, q, Question.forced, cap]
                  have hn := run_newRow C.P { w with drawn := w.drawn + 1 } e V
                  simp only [Conv.stringToBytes, Sem.run_bind]
                  rw [show (choose (.appendCap (strOf b).size 0 e)).run C.P w = _ from hch]
                  simp only [Result.andThen_ok]
                  rw [show (newRow e (((strOf b).data.map fun x => Value.int .u8 x.toNat) ++ Array.replicate (cap - (strOf b).size) (.int .u8 0))).run C.P { w with drawn := w.drawn + 1 } = _ from hn]
                  simp only [Result.andThen_ok, hm, Sem.run_pure]
                refine ⟨.slice (some ⟨w.heap.size, 0, none⟩) (strOf b).size cap, (({ w with drawn := w.drawn + 1 } : World).alloc (.cells V e (V.size, V.size + 1))), ?_, ⟨.cells V e (V.size, V.size + 1), cap, w.drawn + 1, rfl, fun id hid => ⟨⟨V, (V.size, V.size + 1), b.map fun x => Value.int .u8 ((UInt8.ofNat x).toNat : Int), rfl, .inr ⟨rfl, rfl⟩, bytesCells_gams b _, ?_⟩, ?_⟩⟩⟩
                · have hcv : (Go.convert s d (evalA A x)).run C.P w = (Conv.stringToBytes e (strOf b)).run C.P w := by
                    rw [hu]
                    simp only [Go.convert, Sem.run_bind, run_und ok hs, run_und ok hd, run_und ok he, Result.andThen_ok]
                  have := hcv.trans run
                  simp only [execOp, ho]; exact fin this
                · show (∃ rest, V.toList = _ ++ rest ∧ ∀ v ∈ rest, v.oneCell' = true) ∧ V.size = _
                  refine ⟨⟨List.replicate (cap - (strOf b).size) (.int .u8 0), ?_, fun v hv => by rw [List.eq_of_mem_replicate hv]; rfl⟩, ?_⟩
                  · simp [V, strOf]
                  · have : C.P.cellsOf e = 1 := cellsOf_eq ok hsz
                    simp [hVs, Env.put, this]
                · have hl : Nat.ble (b.length + 0) cap = true := ble_of hcap
                  simp only [gam, sliceOf, Env.put, if_true, len_eq, hl, cond_true, strOf_size, Nat.sub_zero]
              · cases h
            · cases h
          · cases h
        · cases h
      · cases h
    · cases h
  case call c =>
    rw [ho] at h
    change callX C T H c = _ at h
    unfold callX at h
    split at h
    · rename_i b _
      exfalso
      cases b <;> cases h
    · cases h
  all_goals (rw [ho] at h; cases h)
end
end Go.Ev
