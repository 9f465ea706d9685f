import Derived.Test.YtbaaklcoafgcdaaGreatEvR
set_option linter.unusedVariables false
set_option linter.unusedSimpArgs false
namespace Go.Ev
/-! ### Memory: what happens to the relation -/
def Env.put (E : Env) (i x c : Nat) : Env := { E with ν := fun j => if j = i then some x else E.ν j, ρ := fun j => if j = i then c else E.ρ j }
theorem Env.put_le {E : Env} {i x c : Nat} (h : E.ν i = none) : E.le (E.put i x c) :=
  ⟨fun j y hj => by
    have : j ≠ i := by intro e; rw [e, h] at hj; cases hj
    simp [Env.put, this, hj], fun _ _ _ h => h⟩
theorem alloc_heap (w : World) (o : Obj) : (w.alloc o).heap = w.heap.push o := rfl
theorem heap_push_lt (w : World) (o : Obj) {b : Nat} (h : b < w.heap.size) : (w.alloc o).heap[b]? = w.heap[b]? := by
  rw [alloc_heap, Array.getElem?_push]; simp [Nat.ne_of_lt h]
theorem heap_push_eq (w : World) (o : Obj) : (w.alloc o).heap[w.heap.size]? = some o := by rw [alloc_heap]; simp
theorem heap_lt {w : World} {b : Nat} {o : Obj} (h : w.heap[b]? = some o) : b < w.heap.size := (Array.getElem?_eq_some_iff.1 h).1
theorem HR.drop {P : Program} {E : Env} {H H' : AHp} {w : World} (hr : HR P E H w) (h : ∀ i o, H'.get i = some o → o.live = true → H.get i = some o) (hn : H.nx ≤ H'.nx) : HR P E H' w :=
  ⟨fun i o hi hl => hr.obj i o (h i o hi hl) hl, fun i j a b x h1 h2 h3 h4 h5 h6 => hr.inj i j a b x (h i a h1 h2) h2 (h j b h3 h4) h4 h5 h6, fun i hi => hr.fresh i (Nat.le_trans hn hi)⟩
/-- the same heap, another world alike -/
theorem HR.world {P : Program} {E : Env} {H : AHp} {w w' : World} (hr : HR P E H w) (h : w'.heap = w.heap) : HR P E H w' :=
  ⟨fun i o hi hl => by rw [h]; exact hr.obj i o hi hl, hr.inj, hr.fresh⟩
/-- a new block for an id that names none -/
theorem HR.alloc {P : Program} {E : Env} {H H' : AHp} {w : World} (hr : HR P E H w) {id c : Nat} {ao : AObj} {ob : Obj} (hid : E.ν id = none)
    (hor : OR P (E.put id w.heap.size c) id ao ob) (h : ∀ i o, H'.get i = some o → o.live = true → (i = id ∧ o = ao) ∨ (i ≠ id ∧ H.get i = some o))
    (hn : H.nx ≤ H'.nx) (hi : id < H'.nx) : HR P (E.put id w.heap.size c) H' (w.alloc ob) := by
  have le := Env.put_le (x := w.heap.size) (c := c) hid
  have old : ∀ i x, i ≠ id → (E.put id w.heap.size c).ν i = some x → E.ν i = some x := fun i x hne hx => by simpa [Env.put, hne] using hx
  refine ⟨fun i o hi hl => ?_, fun i j a b x h1 h2 h3 h4 h5 h6 => ?_, fun i hi' => ?_⟩
  · rcases h i o hi hl with ⟨rfl, rfl⟩ | ⟨hne, hg⟩
    · exact ⟨w.heap.size, ob, by simp [Env.put], heap_push_eq w ob, hor⟩
    · obtain ⟨b, ob', hb, hw, ho⟩ := hr.obj i o hg hl
      exact ⟨b, ob', (le.m i b hb).1, by rw [heap_push_lt w ob (heap_lt hw)]; exact hw, ho.mono le (le.m i b hb).2⟩
  · rcases h i a h1 h2 with ⟨rfl, rfl⟩ | ⟨hni, hgi⟩ <;> rcases h j b h3 h4 with ⟨rfl, rfl⟩ | ⟨hnj, hgj⟩
    · rfl
    · exfalso
      obtain ⟨y, oy, hy, hwy, _⟩ := hr.obj j b hgj h4
      have e6 := old j x hnj h6
      have e5 : x = w.heap.size := by simpa [Env.put] using h5.symm
      rw [hy] at e6; cases e6
      have := heap_lt hwy; omega
    · exfalso
      obtain ⟨y, oy, hy, hwy, _⟩ := hr.obj i a hgi h2
      have e5 := old i x hni h5
      have e6 : x = w.heap.size := by simpa [Env.put] using h6.symm
      rw [hy] at e5; cases e5
      have := heap_lt hwy; omega
    · exact hr.inj i j a b x hgi h2 hgj h4 (old i x hni h5) (old j x hnj h6)
  · have hne : i ≠ id := by omega
    have := hr.fresh i (Nat.le_trans hn hi')
    exact ⟨by simp [Env.put, hne, this.1], this.2⟩
theorem get_new {H : AHp} {o : AObj} {i : Nat} {a : AObj} (h : (H.new o).get i = some a) : (i = H.nx ∧ a = o) ∨ (i ≠ H.nx ∧ H.get i = some a) := Tr.set_some HD h
theorem get_set {H : AHp} {j : Nat} {o : AObj} {i : Nat} {a : AObj} (h : (H.set j o).get i = some a) : (i = j ∧ a = o) ∨ (i ≠ j ∧ H.get i = some a) := Tr.set_some HD h
theorem Post.alloc {P : Program} {E : Env} {H : AHp} {w : World} (hr : HR P E H w) {c : Nat} {ao : AObj} {ob : Obj} (hor : OR P (E.put H.nx w.heap.size c) H.nx ao ob) :
    Post P E H w (E.put H.nx w.heap.size c) (H.new ao) (w.alloc ob) := by
  refine ⟨fun i hi => ?_, hr.alloc (hr.fresh _ (Nat.le_refl _)).1 hor (fun i o hi hl => get_new hi) (Nat.le_succ _) (Nat.lt_succ_self _), rfl, rfl, rfl, by rw [alloc_heap]; simp,
    fun b hb hn => heap_push_lt w ob hb, fun b hn hb => ?_, Nat.le_succ _⟩
  · have : i ≠ H.nx := by omega
    exact ⟨by simp [Env.put, this], by simp [Env.put, this], fun _ => rfl⟩
  · obtain ⟨i, o, hi, hl, hx⟩ := hn
    rcases get_new hi with ⟨rfl, rfl⟩ | ⟨hne, hg⟩
    · exfalso; have : b = w.heap.size := by simpa [Env.put] using hx.symm
      omega
    · exact ⟨i, o, hg, hl, by simpa [Env.put, hne] using hx⟩
/-- one live block is written -/
theorem Post.upd {P : Program} {E : Env} {H : AHp} {w w' : World} (hr : HR P E H w) {i b : Nat} {o o' : AObj} {ob : Obj} (hi : H.get i = some o) (hl : o.live = true) (hb : E.ν i = some b)
    (hw : w'.heap[b]? = some ob) (ho : ∀ c, c ≠ b → w'.heap[c]? = w.heap[c]?) (hs : w'.heap.size = w.heap.size) (hor : o'.live = true → OR P E i o' ob)
    (h1 : w'.os = w.os) (h2 : w'.tape = w.tape) (h3 : w'.output = w.output) : Post P E H w E (H.set i o') w' := by
  have hbi : ∀ j a, H.get j = some a → a.live = true → j ≠ i → E.ν j ≠ some b := fun j a hj hla hne e => hne (hr.inj j i a o b hj hla hi hl e hb)
  refine ⟨fun _ _ => ⟨rfl, rfl, fun _ => rfl⟩, ⟨fun j a hj hla => ?_, fun j k a c x h1 h2 h3 h4 h5 h6 => ?_, hr.fresh⟩, h1, h2, h3, Nat.le_of_eq hs.symm, fun c hc hn => ?_, fun c hn hc => ?_, Nat.le_refl _⟩
  · rcases get_set hj with ⟨rfl, rfl⟩ | ⟨hne, hg⟩
    · exact ⟨b, ob, hb, hw, hor hla⟩
    · obtain ⟨y, oy, hy, hwy, hoy⟩ := hr.obj j a hg hla
      exact ⟨y, oy, hy, by rw [ho y (fun e => hbi j a hg hla hne (e ▸ hy))]; exact hwy, hoy⟩
  · rcases get_set h1 with ⟨rfl, rfl⟩ | ⟨hnj, hgj⟩ <;> rcases get_set h3 with ⟨rfl, rfl⟩ | ⟨hnk, hgk⟩
    · rfl
    · rw [hb] at h5; cases h5; exact absurd h6 (hbi k c hgk h4 hnk)
    · rw [hb] at h6; cases h6; exact absurd h5 (hbi j a hgj h2 hnj)
    · exact hr.inj j k a c x hgj h2 hgk h4 h5 h6
  · by_cases e : c = b
    · subst e; exact absurd ⟨i, o, hi, hl, hb⟩ hn
    · exact ho c e
  · obtain ⟨j, a, hj, hla, hx⟩ := hn
    rcases get_set hj with ⟨rfl, rfl⟩ | ⟨hne, hg⟩
    · exact ⟨j, o, hi, hl, hx⟩
    · exact ⟨j, a, hg, hla, hx⟩
theorem Post.kill {P : Program} {E : Env} {H : AHp} {w : World} (hr : HR P E H w) (i : Nat) : Post P E H w E (H.set i .dead) w := by
  have hd : ∀ j o, (H.set i .dead).get j = some o → o.live = true → H.get j = some o := fun j o hj hl => by
    rcases get_set hj with ⟨rfl, rfl⟩ | ⟨hne, hg⟩
    · cases hl
    · exact hg
  exact ⟨fun _ _ => ⟨rfl, rfl, fun _ => rfl⟩, hr.drop hd (Nat.le_refl _), rfl, rfl, rfl, Nat.le_refl _, fun _ _ _ => rfl, fun b ⟨j, o, hj, hl, hx⟩ _ => ⟨j, o, hd j o hj hl, hl, hx⟩, Nat.le_refl _⟩
/-- the tape is asked -/
theorem Post.drew {P : Program} {E : Env} {H : AHp} {w : World} (hr : HR P E H w) (n : Nat) : Post P E H w E H { w with drawn := n } :=
  ⟨fun _ _ => ⟨rfl, rfl, fun _ => rfl⟩, hr.world rfl, rfl, rfl, rfl, Nat.le_refl _, fun _ _ _ => rfl, fun _ h _ => h, Nat.le_refl _⟩

/-! ### What the model's reads and writes do to a row -/
section rows
variable {P : Program} {w : World} {b : Nat} {A : Array Value} {e : TypeId} {fz : Nat × Nat}
theorem cell_row (h : w.heap[b]? = some (.cells A e fz)) (o : Nat) : w.cell? ⟨b, o, none⟩ = A[o]? := by simp [World.cell?, h]
theorem add_eq (b o n : Nat) : Addr.add ⟨b, o, none⟩ n = ⟨b, o + n, none⟩ := by
  unfold Addr.add; split
  · subst n; rfl
  · rfl
theorem run_load_row (h : w.heap[b]? = some (.cells A e fz)) {o : Nat} {v : Value} (hv : A[o]? = some v) : (load ⟨b, o, none⟩).run P w = .ok v w := by
  simp [cell_row h, hv]
theorem run_cellsFrom (h : w.heap[b]? = some (.cells A e fz)) (o : Nat) : ∀ (n i : Nat) (acc : Array Value), o + i + n ≤ A.size →
    (loadCellsFrom ⟨b, o, none⟩ i n acc).run P w = .ok (acc ++ A.extract (o + i) (o + i + n)) w
  | 0, i, acc, hn => by
    have : A.extract (o + i) (o + i + 0) = #[] := by apply Array.ext'; simp [List.extract_eq_take_drop]
    simp only [loadCellsFrom, Sem.run_pure, this, Array.append_empty]
  | n + 1, i, acc, hn => by
    have hv : A[o + i]? = some A[o + i] := by simp
    have hl := run_load_row (P := P) h hv
    simp only [loadCellsFrom, add_eq, Sem.run_bind, hl, Result.andThen_ok]
    rw [run_cellsFrom h o n (i + 1) _ (by omega)]
    congr 1
    apply Array.ext'
    simp only [Array.toList_append, Array.toList_push, Array.toList_extract, List.extract_eq_take_drop, List.append_assoc]
    congr 1
    have e1 : o + i + (n + 1) - (o + i) = n + 1 := by omega
    have e2 : o + (i + 1) + n - (o + (i + 1)) = n := by omega
    rw [e1, e2, ← Nat.add_assoc]
    have : A.toList.drop (o + i) = A[o + i] :: A.toList.drop (o + i + 1) := by
      rw [List.drop_eq_getElem_cons (by simpa using (by omega : o + i < A.size))]; simp
    rw [this]; simp
theorem run_loadCells (h : w.heap[b]? = some (.cells A e fz)) {o n : Nat} (hn : o + n ≤ A.size) :
    (loadCells ⟨b, o, none⟩ n).run P w = .ok (A.extract o (o + n)) w := by
  unfold loadCells
  rw [run_cellsFrom h o n 0 #[] (by simpa using hn)]
  simp
/-- a list laid over a row from a place on -/
def over (A : Array Value) (o : Nat) : List Value → Array Value
  | [] => A
  | v :: l => over (A.setIfInBounds o v) (o + 1) l
theorem over_size : ∀ (l : List Value) (A : Array Value) (o : Nat), (over A o l).size = A.size
  | [], A, o => rfl
  | v :: l, A, o => by simp [over, over_size l]
def putRow (w : World) (b : Nat) (A : Array Value) (e : TypeId) (fz : Nat × Nat) : World := { w with heap := w.heap.setIfInBounds b (.cells A e fz) }
theorem putRow_same (h : w.heap[b]? = some (.cells A e fz)) : putRow w b A e fz = w := by
  have hb := heap_lt h
  have : w.heap.setIfInBounds b (.cells A e fz) = w.heap := by
    apply Array.ext_getElem?
    intro i
    by_cases hi : i = b
    · subst hi; rw [h]; simp [hb]
    · rw [Array.getElem?_setIfInBounds_ne (Ne.symm hi)]
  simp only [putRow, this]
theorem setCell_row (h : w.heap[b]? = some (.cells A e fz)) (o : Nat) (v : Value) : w.setCell ⟨b, o, none⟩ v = putRow w b (A.setIfInBounds o v) e fz := by
  have hb := heap_lt h
  have : (w.setCell ⟨b, o, none⟩ v).heap = w.heap.setIfInBounds b (.cells (A.setIfInBounds o v) e fz) := by
    apply Array.ext_getElem?
    intro i
    simp only [World.setCell, Array.getElem?_modify]
    by_cases hi : i = b
    · subst hi; rw [h]; simp [hb]
    · rw [Array.getElem?_setIfInBounds_ne (Ne.symm hi), if_neg (Ne.symm hi)]
  show ({ w with heap := (w.setCell ⟨b, o, none⟩ v).heap } : World) = _
  rw [this]; rfl
theorem putRow_get (h : b < w.heap.size) (A' : Array Value) (e' : TypeId) (fz' : Nat × Nat) : (putRow w b A' e' fz').heap[b]? = some (.cells A' e' fz') := by simp [putRow, h]
theorem putRow_ne (A' : Array Value) (e' : TypeId) (fz' : Nat × Nat) {c : Nat} (hc : c ≠ b) : (putRow w b A' e' fz').heap[c]? = w.heap[c]? := by simp [putRow, Array.getElem?_setIfInBounds_ne (Ne.symm hc)]
theorem putRow_put (A' A'' : Array Value) (e' e'' : TypeId) (fz' fz'' : Nat × Nat) : putRow (putRow w b A' e' fz') b A'' e'' fz'' = putRow w b A'' e'' fz'' := by simp [putRow]
def clear (fz : Nat × Nat) (n : Nat) : Prop := fz = (0, 0) ∨ fz = (n, n + 1)
theorem run_storeCells : ∀ (l : List Value) (i : Nat) (w : World) (A : Array Value) (o : Nat), w.heap[b]? = some (.cells A e fz) → clear fz A.size → o + i + l.length ≤ A.size → (∀ v ∈ l, v.oneCell' = true) →
    (storeCells ⟨b, o, none⟩ l i).run P w = .ok () (putRow w b (over A (o + i) l) e fz)
  | [], i, w, A, o, h, hc, hn, ho => by
    simp only [storeCells, Sem.run_pure, over]
    rw [putRow_same h]
  | v :: l, i, w, A, o, h, hc, hn, ho => by
    have hlt : o + i < A.size := by simp at hn; omega
    have hfz : w.frozen? ⟨b, o + i, none⟩ = false := by
      simp only [World.frozen?, h]
      rcases hc with rfl | rfl
      · simp
      · simp; omega
    have hcell : w.cell? ⟨b, o + i, none⟩ = some A[o + i] := by rw [cell_row h]; simp
    have hstore : (store ⟨b, o + i, none⟩ v).run P w = .ok () (putRow w b (A.setIfInBounds (o + i) v) e fz) := by
      rw [run_store P w _ v .plain (ho v (by simp)), hcell]
      simp only [hfz, Bool.false_eq_true, if_false]
      rw [setCell_row h]
    simp only [storeCells, add_eq, Sem.run_bind, hstore, Result.andThen_ok]
    rw [run_storeCells l (i + 1) (putRow w b (A.setIfInBounds (o + i) v) e fz) (A.setIfInBounds (o + i) v) o (putRow_get (heap_lt h) _ _ _) (by simpa using hc) (by simp at hn ⊢; omega) (fun v hv => ho v (by simp [hv]))]
    rw [putRow_put]
    rfl
end rows
theorem over_toList : ∀ (l : List Value) (A : Array Value) (o : Nat), o + l.length ≤ A.size → (over A o l).toList = A.toList.take o ++ l ++ A.toList.drop (o + l.length)
  | [], A, o, h => by simp [over]
  | v :: l, A, o, h => by
    simp only [List.length_cons] at h
    rw [over, over_toList l _ _ (by simp; omega)]
    have h1 : o < A.toList.length := by simp; omega
    simp only [Array.toList_setIfInBounds, List.length_cons]
    have e1 : (A.toList.set o v).take (o + 1) = A.toList.take o ++ [v] := by
      rw [List.take_add_one, List.take_set_of_le (by omega), List.getElem?_set_self h1]; rfl
    have e2 : (A.toList.set o v).drop (o + 1 + l.length) = A.toList.drop (o + 1 + l.length) := by
      rw [List.drop_set_of_lt (by omega)]
    rw [e1, e2]
    have : o + (l.length + 1) = o + 1 + l.length := by omega
    rw [this]; simp
theorem setAt_eq : ∀ (n : Nat) (vs cs : List AVal), n + vs.length ≤ cs.length → setAt n vs cs = cs.take n ++ vs ++ cs.drop (n + vs.length)
  | 0, vs, cs, h => by
    show app vs (dropL (len vs) cs) = _
    rw [app_eq, dropL_eq, len_eq]; simp
  | n + 1, vs, [], h => by simp at h
  | n + 1, vs, c :: cs, h => by
    show c :: setAt n vs cs = _
    rw [setAt_eq n vs cs (by simp at h; omega)]
    have : n + 1 + vs.length = (n + vs.length) + 1 := by omega
    simp [this]
end Go.Ev
