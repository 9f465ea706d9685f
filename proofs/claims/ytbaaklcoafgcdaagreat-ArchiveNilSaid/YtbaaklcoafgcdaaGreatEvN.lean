import Derived.Test.YtbaaklcoafgcdaaGreatEvL
set_option linter.unusedVariables false
set_option linter.unusedSimpArgs false
namespace Go.Ev
section
variable {C : Cx} {E : Env} {H : AHp} {w : World} {n : Nat} {T : Tm} {A : Array Value}
theorem storeCs_sound (ok : CxOk C) (hr : HR C.P E H w) {b off x : Nat} {vs : List AVal} {H' : AHp} (h : storeCs H b off vs = some H') (hx : E.ν b = some x) {us : List Value} (hus : gams E vs = some us) :
    ∃ w', (storeCells ⟨x, off, none⟩ us).run C.P w = .ok () w' ∧ Post C.P E H w E H' w' := by
  unfold storeCs at h
  split at h
  · rename_i c e tl st hb
    obtain ⟨h1, h⟩ := cnd_some h
    obtain ⟨h2, h⟩ := cnd_some h
    cases h
    have h1 := Nat.le_of_ble_eq_true h1
    rw [len_eq, len_eq] at h1
    have h1 : off + vs.length ≤ c.length := h1
    obtain ⟨x', R, fz, ws, rest, hx', hw, hfz, hR, hg, hrest, hsz⟩ := row_of hr hb
    rw [hx] at hx'; cases hx'
    have hl := gams_len hg
    have hlu := gams_len hus
    have hsize : R.size = ws.length + rest.length := by rw [← Array.length_toList, hR]; simp
    have hle : off + us.length ≤ R.size := by omega
    have hclear : clear fz R.size := by rcases hfz with h | ⟨_, h⟩ <;> simp [clear, h]
    have hlt := heap_lt hw
    have hrun := run_storeCells (P := C.P) us 0 w R off hw hclear (by simpa using hle) (allOne_sound h2 hus)
    refine ⟨_, hrun, ?_⟩
    have hov : (over R (off + 0) us).toList = (ws.take off ++ us ++ ws.drop (off + us.length)) ++ rest := by
      rw [over_toList us R (off + 0) (by simpa using hle), hR, Nat.add_zero, List.take_append_of_le_length (by omega), List.drop_append_of_le_length (by omega)]
      simp
    refine Post.upd hr hb rfl hx (putRow_get hlt _ _ _) (fun c' hc' => putRow_ne _ _ _ hc') (by simp [putRow]) (fun _ => ?_) rfl rfl rfl
    refine ⟨over R (off + 0) us, fz, ws.take off ++ us ++ ws.drop (off + us.length), rfl, by rw [over_size]; exact hfz, ?_, ?_⟩
    · rw [setAt_eq off vs c h1]
      have : off + us.length = off + vs.length := by omega
      rw [this]
      exact gams_append (gams_append (gams_take off hg) hus) (gams_drop _ hg)
    · cases tl with
      | true => exact ⟨⟨rest, hov, hrest⟩, by rw [over_size]; exact hsz⟩
      | false =>
        have hsz : rest = [] := hsz
        show (over R (off + 0) us).toList = _
        rw [hov, hsz]; simp
  · cases h
theorem storeA_sound (ok : CxOk C) (hr : HR C.P E H w) {t : TypeId} {a v : AVal} {H' : AHp} (h : storeA C H t a v = some H') {ua uv : Value} (ha : gam E a = some ua) (hv : gam E v = some uv) :
    ∃ w', (Instr.storeAt t ua uv).run C.P w = .ok () w' ∧ Post C.P E H w E H' w' := by
  unfold storeA at h
  split at h
  · rename_i p
    obtain ⟨x, hx, rfl⟩ := ptr_gam ha
    split at h
    · rename_i s hs
      obtain ⟨h1, h⟩ := cnd_some h
      have h1 := beq_iff.1 h1
      rw [len_eq] at h1
      have hc := gam_cells hv
      obtain ⟨w', h2, h3⟩ := storeCs_sound ok hr h hx hc
      refine ⟨w', ?_, h3⟩
      have hsz : ¬ uv.cells.size ≠ s := by have := gams_len hc; simp at this; omega
      simp only [Instr.storeAt, Instr.sureAddr, Sem.run_bind, Sem.run_pure, Result.andThen_ok, storeVar, run_size ok hs, hsz, if_false, h2]
    · cases h
  · cases h

/-! ### Maps -/
theorem sameBits_str (n : Nat) (s : ByteArray) (s' : ByteArray) (h : (s == s') = true) : Instr.sameBits n (.string s') (.string s) = true := by
  rw [beq_toListBytes] at h
  have h1 : s.toList = s'.toList := by simpa using h
  have : s = s' := by
    rw [Go.ByteArray.toList_eq, Go.ByteArray.toList_eq] at h1
    apply ByteArray.ext; apply Array.ext'; exact h1
  subst this
  cases n <;> simp [Instr.sameBits, beq_toListBytes]
/-- what is found in a map over texts has the place at which the model writes, and the key is the same text -/
theorem found_sound {k : List Nat} : ∀ {es : List (AVal × AVal × Nat)} {l : List MapEntry} {q : Option AVal} (i : Nat), gamE E es = some l → findA k es = some q →
    (q = none ∧ Instr.findNow .string (.string (strOf k)) l i = some none ∧ ∀ v c u, gam E v = some u → gamE E (putA k v c es) = some (l ++ [{ key := .string (strOf k), val := u, born := c }])) ∨
    (∃ a u j, q = some a ∧ Instr.findNow .string (.string (strOf k)) l i = some (some (i + j, u)) ∧ (∃ m, l[j]? = some m ∧ ∃ s, m.key = .string s ∧ (strOf k == s) = true) ∧
      (∀ v c u, gam E v = some u → gamE E (putA k v c es) = some (l.modify j fun e => { e with key := .string (strOf k), val := u })) ∧
      gamE E (delA k es) = some (l.eraseIdx j))
  | [], l, q, i, hl, h => by
    simp [gamE] at hl; subst hl; cases h
    exact .inl ⟨rfl, rfl, fun v c u hu => by simp [putA, gamE, gam, hu]⟩
  | (x, y, c) :: es, l, q, i, hl, h => by
    obtain ⟨u, v, r, hu, hv, hr, rfl⟩ := gamE_cons hl
    obtain ⟨b, rfl, hcase⟩ := findA_cons h
    rw [str_gam hu]
    simp only [Instr.findNow, Instr.sameNow, beq_str]
    have hput : ∀ v' c', putA k v' c' ((AVal.str b, y, c) :: es) = cnd (eqS k b) ((.str k, v', c) :: es) ((.str b, y, c) :: putA k v' c' es) := fun v' c' => rfl
    have hdel : delA k ((AVal.str b, y, c) :: es) = cnd (eqS k b) es ((.str b, y, c) :: delA k es) := rfl
    rcases hcase with ⟨he, rfl⟩ | ⟨he, h⟩
    · rw [he]
      refine .inr ⟨y, v, 0, rfl, rfl, ⟨_, rfl, strOf b, rfl, by rw [beq_str]; exact he⟩, fun v' c' u' hu' => ?_, ?_⟩
      · rw [hput, he]
        simp only [cnd, gamE, gam, hu', hr]
        rfl
      · rw [hdel, he]; exact hr
    · rw [he]
      rcases found_sound (i + 1) hr h with ⟨rfl, h2, h3⟩ | ⟨a, z, j, rfl, h2, ⟨m, hm, hs⟩, h3, h4⟩
      · refine .inl ⟨rfl, h2, fun v' c' u' hu' => ?_⟩
        rw [hput, he]
        simp only [cnd, gamE, gam, hv, h3 v' c' u' hu']
        rfl
      · refine .inr ⟨a, z, j + 1, rfl, by simp only [h2]; rw [show i + 1 + j = i + (j + 1) by omega], ⟨m, hm, hs⟩, fun v' c' u' hu' => ?_, ?_⟩
        · rw [hput, he]
          simp only [cnd, gamE, gam, hv, h3 v' c' u' hu']
          rfl
        · rw [hdel, he]
          simp only [cnd, gamE, gam, hv, h4]
          rfl
theorem run_setObj_map {P : Program} {b : Nat} {l : Array MapEntry} {c : Nat} (h : w.heap[b]? = some (.map l c)) (o : Obj) : (setObj b o).run P w = .ok () { w with heap := w.heap.setIfInBounds b o } := by
  simp [setObj, Sem.run, h]
theorem map_upd (hr : HR C.P E H w) {i b c : Nat} {es es' : List (AVal × AVal × Nat)} {l l' : List MapEntry} {c' : Nat} (hi : H.get i = some (.map es c)) (hb : E.ν i = some b) (hw : w.heap[b]? = some (.map l.toArray c)) (hl' : gamE E es' = some l') :
    Post C.P E H w E (H.set i (.map es' c')) { w with heap := w.heap.setIfInBounds b (.map l'.toArray c') } :=
  Post.upd hr hi rfl hb (by simp [heap_lt hw]) (fun d hd => by simp [Array.getElem?_setIfInBounds_ne (Ne.symm hd)]) (by simp) (fun _ => ⟨l', hl', rfl⟩) rfl rfl rfl
theorem map_live {m : AVal} {u : Value} {r : Nat} (h : m = .map (some r)) (hu : gam E m = some u) : ∃ b, E.ν r = some b ∧ u = .map (some b) := by
  subst h
  simp only [gam] at hu
  cases hr : E.ν r with
  | none => simp [hr] at hu
  | some b => simp [hr] at hu; exact ⟨b, rfl, hu.symm⟩
theorem updA_sound (ok : CxOk C) (hr : HR C.P E H w) {t : TypeId} {m k v : AVal} {H' : AHp} (h : updA C H t m k v = some H') {um uk uv : Value} (hm : gam E m = some um) (hk : gam E k = some uk) (hv : gam E v = some uv) :
    ∃ w', (Instr.mapUpdate t um uk uv).run C.P w = .ok () w' ∧ Post C.P E H w E H' w' := by
  unfold updA at h
  split at h
  · rename_i r
    obtain ⟨b, hb, rfl⟩ := map_live rfl hm
    split at h
    · rename_i ks
      split at h
      · rename_i e hT
        obtain ⟨kt, ht, hkt⟩ := keyK_und ok hT
        rw [str_gam hk]
        split at h
        · rename_i es c hi
          obtain ⟨b', ob, hb', hw, l, hl, rfl⟩ := hr.obj r _ hi rfl
          rw [hb] at hb'; cases hb'
          split at h
          · rename_i a ha
            cases h
            rcases found_sound 0 hl ha with ⟨h0, _⟩ | ⟨a', z, j, h1, h2, ⟨me, hme, s, hs, hks⟩, h3, _⟩
            · cases h0
            · have hf := run_findKey_str ok hkt h2 w
              have hkey : (((l.toArray)[0 + j]?).map (·.key)).getD (.string (strOf ks)) = .string s := by simp [hme, hs]
              have hst : (Instr.keyThatStays (.string s) (.string (strOf ks))).run C.P w = .ok (.string (strOf ks)) w := by
                simp [Instr.keyThatStays, sameBits_str _ _ _ hks]
              refine ⟨_, ?_, map_upd hr hi hb hw (h3 v c uv hv)⟩
              simp only [Instr.mapUpdate, Sem.run_bind, run_und ok ht, Result.andThen_ok, run_getObj_map hw, run_checkKey_str ok hkt, hf, hkey, hst, run_setObj_map hw]
              simp
          · rename_i ha
            cases h
            rcases found_sound 0 hl ha with ⟨_, h2, h3⟩ | ⟨a', z, j, h1, _⟩
            · have hf := run_findKey_str ok hkt h2 w
              refine ⟨_, ?_, map_upd hr hi hb hw (h3 v c uv hv)⟩
              simp only [Instr.mapUpdate, Sem.run_bind, run_und ok ht, Result.andThen_ok, run_getObj_map hw, run_checkKey_str ok hkt, hf, run_setObj_map hw]
              simp
            · cases h1
          · cases h
        · cases h
      · cases h
    · cases h
  · cases h
theorem dropA_sound (ok : CxOk C) (hr : HR C.P E H w) {t t' : TypeId} {ts : Array TypeId} (hts : ts[0]? = some t) {m k : AVal} {H' : AHp} (h : dropA C H t m k = some H') {um uk : Value} (hm : gam E m = some um) (hk : gam E k = some uk) :
    ∃ w', (Builtin.delete_ ts t' #[um, uk]).run C.P w = .ok (.tuple #[]) w' ∧ Post C.P E H w E H' w' := by
  unfold dropA at h
  split at h
  · rename_i r
    obtain ⟨b, hb, rfl⟩ := map_live rfl hm
    split at h
    · rename_i ks
      split at h
      · rename_i e hT
        obtain ⟨kt, ht, hkt⟩ := keyK_und ok hT
        rw [str_gam hk]
        split at h
        · rename_i es c hi
          obtain ⟨b', ob, hb', hw, l, hl, rfl⟩ := hr.obj r _ hi rfl
          rw [hb] at hb'; cases hb'
          split at h
          · rename_i q ha
            cases h
            have hargs : (#[Value.map (some b), Value.string (strOf ks)] : Array Value)[0]? = some (.map (some b)) ∧ (#[Value.map (some b), Value.string (strOf ks)] : Array Value)[1]? = some (.string (strOf ks)) := ⟨rfl, rfl⟩
            rcases found_sound 0 hl ha with ⟨rfl, h2, h3⟩ | ⟨a', z, j, rfl, h2, _, h3, h4⟩
            · have hf := run_findKey_str ok hkt h2 w
              have hdel : gamE E (delA ks es) = some l := by
                clear h2 h3 hf hw hi
                induction es generalizing l with
                | nil => exact hl
                | cons x es ih =>
                  obtain ⟨x, y, c⟩ := x
                  obtain ⟨u, v, r, hu, hv, hr', rfl⟩ := gamE_cons hl
                  obtain ⟨b', rfl, hcase⟩ := findA_cons ha
                  rcases hcase with ⟨_, h⟩ | ⟨he, hf⟩
                  · cases h
                  · show gamE E (cnd (eqS ks b') es ((.str b', y, c) :: delA ks es)) = _
                    rw [he]
                    simp only [cnd, gamE, hu, hv, ih _ hr' hf]
              refine ⟨_, ?_, map_upd hr hi hb hw hdel⟩
              simp only [Builtin.delete_, hts, hargs.1, hargs.2, Sem.run_bind, run_und ok ht, Result.andThen_ok, run_getObj_map hw, run_checkKey_str ok hkt, hf, run_setObj_map hw, Sem.run_pure]
            · have hf := run_findKey_str ok hkt h2 w
              refine ⟨_, ?_, map_upd hr hi hb hw h4⟩
              simp only [Builtin.delete_, hts, hargs.1, hargs.2, Sem.run_bind, run_und ok ht, Result.andThen_ok, run_getObj_map hw, run_checkKey_str ok hkt, hf, run_setObj_map hw, Sem.run_pure]
              have : (l.toArray.eraseIdxIfInBounds (0 + j)) = (l.eraseIdx j).toArray := by simp
              rw [this]
          · cases h
        · cases h
      · cases h
    · cases h
  · cases h
end
end Go.Ev
