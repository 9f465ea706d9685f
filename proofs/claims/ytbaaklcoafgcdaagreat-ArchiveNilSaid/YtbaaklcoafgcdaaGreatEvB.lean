import Derived.Test.YtbaaklcoafgcdaaGreatEvN
set_option linter.unusedVariables false
set_option linter.unusedSimpArgs false
namespace Go.Ev
section
variable {C : Cx} {E : Env} {H : AHp} {w : World} {n : Nat} {T : Tm} {A : Array Value}
/-- a live row is written, and goes on under a new name -/
theorem Post.move {P : Program} {E : Env} {H : AHp} {w w' : World} (hr : HR P E H w) {b x c : Nat} {o ao : AObj} {ob : Obj} (hb : H.get b = some o) (hl : o.live = true) (hx : E.ν b = some x)
    (hw : w'.heap[x]? = some ob) (ho : ∀ y, y ≠ x → w'.heap[y]? = w.heap[y]?) (hs : w'.heap.size = w.heap.size) (hor : OR P (E.put H.nx x c) H.nx ao ob)
    (h1 : w'.os = w.os) (h2 : w'.tape = w.tape) (h3 : w'.output = w.output) : Post P E H w (E.put H.nx x c) ((H.set b .dead).new ao) w' := by
  have hid := (hr.fresh H.nx (Nat.le_refl _)).1
  have le := Env.put_le (x := x) (c := c) hid
  have old : ∀ i y, i ≠ H.nx → (E.put H.nx x c).ν i = some y → E.ν i = some y := fun i y hne hy => by simpa [Env.put, hne] using hy
  have split : ∀ i a, ((H.set b .dead).new ao).get i = some a → a.live = true → (i = H.nx ∧ a = ao) ∨ (i ≠ H.nx ∧ i ≠ b ∧ H.get i = some a) := fun i a hi hla => by
    rcases get_new hi with ⟨h, h'⟩ | ⟨hne, hg⟩
    · exact .inl ⟨h, h'⟩
    · rcases get_set hg with ⟨rfl, rfl⟩ | ⟨hnb, hg⟩
      · cases hla
      · exact .inr ⟨hne, hnb, hg⟩
  have notx : ∀ i a, i ≠ b → H.get i = some a → a.live = true → E.ν i ≠ some x := fun i a hne hi hla e => hne (hr.inj i b a o x hi hla hb hl e hx)
  refine ⟨fun i hi => ?_, ⟨fun i a hi hla => ?_, fun i j a d y hi hla hj hld hyi hyj => ?_, fun i hi => ?_⟩, h1, h2, h3, Nat.le_of_eq hs.symm, fun y hy hn => ?_, fun y hn hy => ?_, Nat.le_succ _⟩
  · have : i ≠ H.nx := by omega
    exact ⟨by simp [Env.put, this], by simp [Env.put, this], fun _ => rfl⟩
  · rcases split i a hi hla with ⟨rfl, rfl⟩ | ⟨hne, hnb, hg⟩
    · exact ⟨x, ob, by simp [Env.put], hw, hor⟩
    · obtain ⟨y, oy, hy, hwy, hoy⟩ := hr.obj i a hg hla
      exact ⟨y, oy, (le.m i y hy).1, by rw [ho y (fun e => notx i a hnb hg hla (e ▸ hy))]; exact hwy, hoy.mono le (le.m i y hy).2⟩
  · rcases split i a hi hla with ⟨rfl, rfl⟩ | ⟨hni, hnb, hgi⟩ <;> rcases split j d hj hld with ⟨rfl, rfl⟩ | ⟨hnj, hnb', hgj⟩
    · rfl
    · have e : y = x := by simpa [Env.put] using hyi.symm
      exact absurd (e ▸ old j y hnj hyj) (notx j d hnb' hgj hld)
    · have e : y = x := by simpa [Env.put] using hyj.symm
      exact absurd (e ▸ old i y hni hyi) (notx i a hnb hgi hla)
    · exact hr.inj i j a d y hgi hla hgj hld (old i y hni hyi) (old j y hnj hyj)
  · have hi : H.nx + 1 ≤ i := hi
    have hne : i ≠ H.nx := by omega
    have := hr.fresh i (by omega)
    exact ⟨by simp [Env.put, hne, this.1], this.2⟩
  · by_cases e : y = x
    · subst e; exact absurd ⟨b, o, hb, hl, hx⟩ hn
    · exact ho y e
  · obtain ⟨i, a, hi, hla, hy'⟩ := hn
    rcases split i a hi hla with ⟨rfl, rfl⟩ | ⟨hne, hnb, hg⟩
    · have : y = x := by simpa [Env.put] using hy'.symm
      subst this; exact ⟨b, o, hb, hl, hx⟩
    · exact ⟨i, a, hg, hla, old i y hne hy'⟩
theorem growBy_le (m : Nat) : ∀ (r c : Nat), c ≤ 2 * m + 768 → Builtin.growBy m r c ≤ 2 * m + 768
  | 0, c, h => h
  | r + 1, c, h => by
    unfold Builtin.growBy
    split
    · exact h
    · exact growBy_le m r _ (by omega)
theorem nextcap_le {m c : Nat} (h : c < m) : Builtin.nextslicecap m c ≤ 2 * m + 768 := by
  unfold Builtin.nextslicecap
  split
  · omega
  · split
    · omega
    · exact growBy_le m 4 c (by omega)
theorem zeroCells_ok {z : Array Value} (h : ∀ v ∈ z.toList, v.oneCell' = true) (n : Nat) : (Builtin.zeroCells z n).size = n * z.size ∧ ∀ v ∈ (Builtin.zeroCells z n).toList, v.oneCell' = true := by
  refine ⟨by simp [Builtin.zeroCells], fun v hv => ?_⟩
  simp only [Builtin.zeroCells, Array.toList_map, Array.toList_range, List.mem_map, List.mem_range] at hv
  obtain ⟨i, hi, rfl⟩ := hv
  have hpos : 0 < z.size := by
    rcases Nat.eq_zero_or_pos z.size with h0 | h0
    · rw [h0] at hi; omega
    · exact h0
  have hlt := Nat.mod_lt i hpos
  rw [getElem!_pos z _ hlt]
  exact h _ (by simp)
theorem smallT_sound (ok : CxOk C) {t : TypeId} {s : Nat} (h : smallT C t = true) (hs : sizeOf C t = some s) : ∃ i v, info C t = some i ∧ i.zero = some v ∧ i.bytes ≤ 100000 ∧ v.cells.size = s ∧ ∀ x ∈ v.cells.toList, x.oneCell' = true := by
  unfold smallT at h
  obtain ⟨i, hi, rfl⟩ := size_info ok hs
  rw [hi] at h
  dsimp only at h
  cases hb : Nat.ble i.bytes 100000 with
  | false => rw [hb] at h; cases h
  | true =>
    rw [hb] at h
    change (match zeroCs C t with
      | some z => Nat.beq (len z) i.size
      | none => false) = true at h
    split at h
    · rename_i z hz
      obtain ⟨i', v, hi', hv, hg, ho⟩ := zeroCs_sound ok hz
      rw [hi] at hi'; cases hi'
      have hl := gams_len (hg ⟨fun _ => none, fun _ => 0, fun _ _ => none⟩)
      have h := beq_iff.1 h
      rw [len_eq] at h
      simp at hl
      exact ⟨i, v, hi, hv, Nat.le_of_ble_eq_true hb, by omega, allOne_sound ho (hg ⟨fun _ => none, fun _ => 0, fun _ _ => none⟩)⟩
    · cases h
/-- a source of an append -/
theorem srcA_sound (ok : CxOk C) {s : Nat} {x : AVal} {nk : List AVal × Nat} (h : srcA C H s x = some nk) {u : Value} (hu : gam E x = some u) :
    (∀ w, HR C.P E H w → (Builtin.lenOf u).run C.P w = .ok nk.2 w ∧ ∃ V : Array Value, (Builtin.firstCells s nk.2 u).run C.P w = .ok V w ∧ gams E nk.1 = some V.toList) ∧ nk.1.length = nk.2 * s := by
  unfold srcA at h
  split at h
  · rename_i a m c
    split at h
    · rename_i cs hcs
      cases h
      refine ⟨fun w hr => ⟨?_, firstCells_sound ok hr hu (Nat.le_refl _) hcs⟩, ?_⟩
      · obtain ⟨p, y, rfl, _⟩ := slice_gam hu
        simp [Builtin.lenOf]
      · exact sliceCells_len hcs
    · cases h
  · rename_i b
    obtain ⟨h1, h⟩ := cnd_some h
    have h1 := beq_iff.1 h1
    cases h
    subst h1
    rw [str_gam hu]
    refine ⟨fun w hr => ⟨by simp [Builtin.lenOf, strOf_size, len_eq], (strOf b).data.map fun b => .int .u8 b.toNat, ?_, ?_⟩, by simp [bytesCells_len, len_eq]⟩
    · simp only [Builtin.firstCells, Sem.run_pure, len_eq]
      have : (strOf b).extract 0 b.length = strOf b := by
        rw [← strOf_size b]; apply ByteArray.ext; simp
      rw [this]
    · rw [bytesCells_gams]; simp [strOf]
  · cases h
/-- a new row, of what was there, what is appended, and zeros -/
theorem grown_post (ok : CxOk C) (hr : HR C.P E H w) {e s : Nat} (st : Bool) (hs : sizeOf C e = some s) {cs : List AVal} {V R : Array Value} (hg : gams E cs = some V.toList) {m cap d : Nat} (hm : V.size = m * s) (hcap : m ≤ cap)
    (hR1 : R.size = (cap - m) * s) (hR2 : ∀ v ∈ R.toList, v.oneCell' = true) :
    Post C.P E H w (E.put H.nx w.heap.size cap) (H.new (.cells cs e true st)) (({ w with drawn := d } : World).alloc (.cells (V ++ R) e)) ∧
    gam (E.put H.nx w.heap.size cap) (.slice (some (H.nx, 0)) m (.free 0)) = some (.slice (some ⟨w.heap.size, 0, none⟩) m cap) := by
  have hid := (hr.fresh H.nx (Nat.le_refl _)).1
  have hd := Post.drew hr d
  refine ⟨hd.trans (Post.alloc (w := { w with drawn := d }) hd.hr ⟨V ++ R, (0, 0), V.toList, rfl, .inl rfl, gams_mono (Env.put_le hid) _ hg, ?_⟩), ?_⟩
  · show (∃ rest, (V ++ R).toList = V.toList ++ rest ∧ ∀ v ∈ rest, v.oneCell' = true) ∧ (V ++ R).size = _
    refine ⟨⟨R.toList, by simp, hR2⟩, ?_⟩
    have hc : C.P.cellsOf e = s := cellsOf_eq ok hs
    have : (E.put H.nx w.heap.size cap).ρ H.nx = cap := by simp [Env.put]
    rw [Array.size_append, hm, hR1, hc]
    show m * s + (cap - m) * s = (E.put H.nx _ cap).ρ H.nx * s
    simp only [Env.put, if_true]
    rw [← Nat.add_mul]; congr 1; omega
  · have : Nat.ble (m + 0) cap = true := ble_of hcap
    simp only [gam, sliceOf, Env.put, if_true, this, cond_true, Nat.sub_zero]
theorem grownA_some {cs : List AVal} {e m : Nat} {st : Bool} {v : AVal} {H' : AHp} (h : grownA H cs e m st = some (v, H')) : allOne cs = true ∧ m ≤ 1000000 ∧ v = .slice (some (H.nx, 0)) m (.free 0) ∧ H' = H.new (.cells cs e true st) := by
  obtain ⟨h1, h⟩ := cnd_some h
  obtain ⟨h2, h⟩ := cnd_some h
  obtain ⟨_, h⟩ := cnd_some h
  injection h with h
  injection h with h3 h4
  exact ⟨h1, Nat.le_of_ble_eq_true h2, h3.symm, h4.symm⟩
theorem appendC_sound (ok : CxOk C) (hr : HR C.P E H w) {st xt t' : TypeId} {ts : Array TypeId} (h0 : ts[0]? = some st) (h1 : ts[1]? = some xt) {x v : AVal} {H' : AHp} {base : Option (Nat × Nat)} {len : Nat} {cap : Cap}
    {us ux : Value} (hus : gam E (.slice base len cap) = some us) (hux : gam E x = some ux) {e sz : Nat} (hst : und C st = some (.slice e)) (hsz : sizeOf C e = some sz) (hpos : 0 < sz)
    {i : TypeInfo} {z : Value} (hi : info C e = some i) (hz : i.zero = some z) (hbytes : i.bytes ≤ 100000) (hzs : z.cells.size = sz) (hz1 : ∀ x ∈ z.cells.toList, x.oneCell' = true)
    {dx : TypeDesc} (hdx : und C xt = some dx) (hnoint : ∀ k, dx ≠ .int k) {new old : List AVal} {k : Nat} (hnk : srcA C H sz x = some (new, k)) (hold : sliceCells H sz base len = some old)
    (h : appendC H base len cap e sz old new k = some (v, H')) : ∃ E' w' u, (Builtin.append_ ts t' #[us, ux]).run C.P w = .ok u w' ∧ gam E' v = some u ∧ Post C.P E H w E' H' w' := by
  obtain ⟨hsrc, hlen⟩ := srcA_sound ok hnk hux
  dsimp only at hsrc hlen
  obtain ⟨hlo, V, hV, hgV⟩ := hsrc w hr
  have hVs : V.size = k * sz := by have := gams_len hgV; simp at this; omega
  obtain ⟨p, y, rfl, hlim, hcase⟩ := slice_cap hus
  -- the model's append, up to the question whether there is room
  have hin : len + k ≤ y → ∀ w', (match p with | some a => (storeCells (a.add (len * sz)) V.toList : Sem Unit) | none => pure ()).run C.P w = .ok () w' → (Builtin.append_ ts t' #[.slice p len y, ux]).run C.P w = .ok (.slice p (len + k) y) w' := by
    intro hle w' hw'
    unfold Builtin.append_
    simp only [h0, h1, List.getElem?_toArray, List.getElem?_cons_zero, List.getElem?_cons_succ, Sem.run_bind, run_und ok hst, run_und ok hdx, Result.andThen_ok, run_size ok hsz, Sem.run_pure]
    cases dx <;> first | exact absurd rfl (hnoint _) | skip
    all_goals
      simp only [Bool.false_eq_true, if_false, Bool.not_false, if_true, hlo, hV, Result.andThen_ok, Sem.run_bind, if_pos hle]
      cases p with
      | none => simp at hw'; subst hw'; simp
      | some a => simp only at hw'; simp [hw']
  have hgrow : y < len + k → len + k ≤ 1000000 → ∃ (c' : Nat) (O R : Array Value), len + k ≤ c' ∧ gams E old = some O.toList ∧ O.size = len * sz ∧ R.size = (c' - (len + k)) * sz ∧ (∀ v ∈ R.toList, v.oneCell' = true) ∧
      (Builtin.append_ ts t' #[.slice p len y, ux]).run C.P w = .ok (.slice (some ⟨w.heap.size, 0, none⟩) (len + k) c') (({ w with drawn := w.drawn + 1 } : World).alloc (.cells (O ++ V ++ R) e)) := by
    intro hlt hmax
    have hr1 : HR C.P E H { w with drawn := w.drawn + 1 } := hr.world rfl
    obtain ⟨O, hO, hgO⟩ := firstCells_sound ok hr1 hus (Nat.le_refl _) hold
    obtain ⟨_, V1, hV1, hgV1⟩ := hsrc { w with drawn := w.drawn + 1 } hr1
    have hVV : V1 = V := by
      rw [hgV] at hgV1
      injection hgV1 with hgV1
      exact (Array.ext' hgV1).symm
    subst hVV
    let q : Question := .appendCap (len + k) y e
    let c' := q.cut (w.tape w.drawn q)
    have hc' : len + k ≤ c' := by show len + k ≤ len + k + _; omega
    have hch : (choose (.appendCap (len + k) y e)).run C.P w = .ok c' { w with drawn := w.drawn + 1 } := by simp [choose, Sem.run, Question.forced, q, c']
    obtain ⟨hz3, hz4⟩ := zeroCells_ok hz1 (c' - (len + k))
    refine ⟨c', O, Builtin.zeroCells z.cells (c' - (len + k)), hc', hgO, ?_, by rw [hz3, hzs], hz4, ?_⟩
    · have h1 := gams_len hgO
      have h2 := sliceCells_len hold
      simp at h1; omega
    · have hnle : ¬ len + k ≤ y := by omega
      have hbig : ¬ ((len + k : Nat) : Int) > IntKind.i64.max := by
        have e : IntKind.i64.max = 9223372036854775807 := by decide
        rw [e]; omega
      have hnext : ¬ Builtin.nextslicecap (len + k) y * i.bytes > 2 ^ 48 := by
        have h1 := nextcap_le hlt
        have h2 : Builtin.nextslicecap (len + k) y ≤ 2000768 := by omega
        have h3 : Builtin.nextslicecap (len + k) y * i.bytes ≤ 2000768 * 100000 := Nat.mul_le_mul h2 hbytes
        omega
      have hzv : ∀ w, (zeroValue e).run C.P w = .ok z w := fun w => by simp [zeroValue, run_info ok hi, hz]
      have hnr := run_newRow C.P { w with drawn := w.drawn + 1 } e (O ++ V1 ++ Builtin.zeroCells z.cells (c' - (len + k)))
      unfold Builtin.append_
      simp only [h0, h1, List.getElem?_toArray, List.getElem?_cons_zero, List.getElem?_cons_succ, Sem.run_bind, run_und ok hst, run_und ok hdx, Result.andThen_ok, run_size ok hsz, Sem.run_pure]
      cases dx <;> first | exact absurd rfl (hnoint _) | skip
      all_goals
        simp only [Bool.false_eq_true, if_false, Bool.not_false, if_true, hlo, Result.andThen_ok, Sem.run_bind, if_neg hnle, run_info ok hi, hbig, false_and, hnext, hch, run_askRoom, hO, hV1, hzv, hnr, Sem.run_pure]
  -- the row grows
  have fgrow : y < len + k → ∀ (st : Bool) (H1 : AHp), H1.nx = H.nx → Post C.P E H w E H1 w → grownA H1 (app old new) e (len + k) st = some (v, H') →
      ∃ E' w' u, (Builtin.append_ ts t' #[.slice p len y, ux]).run C.P w = .ok u w' ∧ gam E' v = some u ∧ Post C.P E H w E' H' w' := by
    intro hlt st H1 hnx hpost hgr
    obtain ⟨_, hmax, rfl, rfl⟩ := grownA_some hgr
    obtain ⟨c', O, R, hc', hgO, hOs, hRs, hR1, hrun⟩ := hgrow hlt hmax
    have hg2 : gams E (app old new) = some (O ++ V).toList := by rw [app_eq]; simpa using gams_append hgO hgV
    obtain ⟨g1, g2⟩ := grown_post (d := w.drawn + 1) ok hpost.hr st hsz hg2 (m := len + k) (by rw [Array.size_append, hOs, hVs, Nat.add_mul]) hc' hRs hR1
    exact ⟨_, _, _, hrun, g2, hpost.trans g1⟩
  -- in place
  have fwithin : len + k ≤ y → ∀ r, ptrOf E base = some p → withinA H base (len * sz) new r = some (v, H') → r = v ∧ ∃ w', (Builtin.append_ ts t' #[.slice p len y, ux]).run C.P w = .ok (.slice p (len + k) y) w' ∧ Post C.P E H w E H' w' := by
    intro hle r hp hwi
    unfold withinA at hwi
    split at hwi
    · have hp0 : p = none := by simpa [ptrOf] using hp.symm
      subst hp0
      split at hwi
      · cases hwi
        exact ⟨rfl, w, hin hle w rfl, Post.refl hr⟩
      · cases hwi
    · rename_i p0
      obtain ⟨b, o⟩ := p0
      simp only [ptrOf] at hp
      cases hb : E.ν b with
      | none => simp [hb] at hp
      | some x0 =>
        simp [hb] at hp; subst hp
        unfold setOk at hwi
        split at hwi
        · rename_i H1 hst
          cases hwi
          obtain ⟨w', h2, h3⟩ := storeCs_sound ok hr hst hb hgV
          refine ⟨rfl, w', hin hle w' ?_, h3⟩
          simp only [add_eq]; exact h2
        · cases hwi
  cases cap with
  | exact c =>
    obtain ⟨rfl, hn, hp⟩ := hcase
    change cnd (Nat.ble (len + k) y) (withinA H base (len * sz) new (.slice base (len + k) (.exact y))) (cnd (Nat.ble y 1000000) (grownA H (app old new) e (len + k) false) none) = some (v, H') at h
    rw [ble_eq] at h
    by_cases hle : len + k ≤ y
    · simp only [hle, decide_true, cnd] at h
      obtain ⟨rfl, w', h2, h3⟩ := fwithin hle _ hp h
      exact ⟨E, w', _, h2, exact_gam hp hle, h3⟩
    · simp only [hle, decide_false] at h
      obtain ⟨_, h⟩ := cnd_some (show cnd (Nat.ble y 1000000) (grownA H (app old new) e (len + k) false) none = some (v, H') from h)
      exact fgrow (by omega) false H rfl (Post.refl hr) h
  | ge m =>
    obtain ⟨⟨b, o⟩, x0, rfl, hb, rfl, hlm, hmy, rfl⟩ := hcase
    obtain ⟨hle, h⟩ := cnd_some (show cnd (Nat.ble (len + k) m) (withinA H (some (b, o)) (len * sz) new (.slice (some (b, o)) (len + k) (.ge m))) none = some (v, H') from h)
    have hle := Nat.le_of_ble_eq_true hle
    dsimp only at hb hmy hin fwithin
    obtain ⟨rfl, w', h2, h3⟩ := fwithin (by omega) _ (by simp [ptrOf, hb]) h
    exact ⟨E, w', _, h2, by simp [gam, sliceOf, hb, ble_of hle, ble_of hmy], h3⟩
  | lt m =>
    obtain ⟨⟨b, o⟩, x0, rfl, hb, rfl, hlm, hmy, rfl⟩ := hcase
    obtain ⟨hle, h⟩ := cnd_some (show cnd (Nat.ble m (len + k)) (grownA H (app old new) e (len + k) false) none = some (v, H') from h)
    have hle := Nat.le_of_ble_eq_true hle
    dsimp only at hmy fgrow
    exact fgrow (by omega) false H rfl (Post.refl hr) h
  | edge d l0 z0 => cases h
  | free d =>
    obtain ⟨⟨b, o⟩, x0, rfl, hb, rfl, hld, rfl⟩ := hcase
    obtain ⟨hd0, h⟩ := cnd_some (show cnd (Nat.beq d 0) (cnd (Nat.beq k 0) (some (AVal.slice (some (b, o)) len (.free d), H)) (freeA H (some (b, o)) e sz len old new (len + k))) none = some (v, H') from h)
    obtain rfl := beq_iff.1 hd0
    dsimp only at hb hld hin fgrow hus
    simp only [Nat.add_zero, Nat.sub_zero] at hld hin fgrow hus ⊢
    rw [beq_eq] at h
    by_cases hk : k = 0
    · subst hk
      simp only [decide_true, cnd] at h
      cases h
      have hV0 : V.toList = [] := by
        have : V.size = 0 := by omega
        simpa using this
      refine ⟨E, w, _, hin (by omega) w ?_, hus, Post.refl hr⟩
      rw [hV0]; rfl
    · simp only [hk, decide_false, cnd] at h
      change (match H.get b with
        | some (.cells c e' true st) => cnd (Nat.beq o 0) (cnd (Nat.beq (len * sz) (Ev.len c)) (cnd (Nat.beq e e') (grownA (H.set b .dead) (app old new) e (len + k) st) none) none) none
        | _ => none) = some (v, H') at h
      split at h
      · rename_i c e' st' hgb
        obtain ⟨ho, h6⟩ := cnd_some h
        obtain ⟨hlc, h7⟩ := cnd_some h6
        obtain ⟨hee, h8⟩ := cnd_some h7
        clear h h6 h7
        obtain rfl := beq_iff.1 ho
        obtain rfl := beq_iff.1 hee
        have hlc := beq_iff.1 hlc
        rw [len_eq] at hlc
        by_cases hle : len + k ≤ E.ρ b
        · obtain ⟨hall, _, rfl, rfl⟩ := grownA_some h8
          obtain ⟨x', R, fz, vs, rest, hx', hw, hfz, hR, hg, hrest, hRsz⟩ := row_of hr hgb
          rw [hb] at hx'; cases hx'
          have hc0 : C.P.cellsOf e = sz := cellsOf_eq ok hsz
          have hRsz : R.size = E.ρ b * sz := by rw [← hc0]; exact hRsz
          have hmul : (len + k) * sz ≤ E.ρ b * sz := Nat.mul_le_mul_right _ hle
          rw [Nat.add_mul] at hmul
          have hVl : V.toList.length = k * sz := by simpa using hVs
          have hle2 : len * sz + V.toList.length ≤ R.size := by omega
          have hvl := gams_len hg
          have hsl := sliceCells_sound ok hr hold (p := some ⟨x0, 0, none⟩) (by simp [ptrOf, hb])
          obtain ⟨b2, x2, R2, e2, fz2, hb2, hx2, hq2, hw2, _, hgo, _⟩ := hsl
          cases hb2
          rw [hb] at hx2; cases hx2
          rw [hw] at hw2; cases hw2
          dsimp only at hgo
          have hgall : gams E (app old new) = some ((R.extract 0 (0 + len * sz)).toList ++ V.toList) := by rw [app_eq]; exact gams_append hgo hgV
          have hV1 : ∀ v ∈ V.toList, v.oneCell' = true := fun v hv => allOne_sound hall hgall v (List.mem_append_right _ hv)
          have hclear : clear fz R.size := by rcases hfz with h | ⟨_, h⟩ <;> simp [clear, h]
          have hrun := run_storeCells (P := C.P) V.toList 0 w R (len * sz) hw hclear (by simpa using hle2) hV1
          refine ⟨_, _, _, hin hle _ (by simp only [add_eq, Nat.zero_add]; exact hrun), ?_, Post.move hr hgb rfl hb (c := E.ρ b) (putRow_get (heap_lt hw) _ _ _) (fun y hy => putRow_ne _ _ _ hy) (by simp [putRow]) ?_ rfl rfl rfl⟩
          · have h1 : Nat.ble (len + k + 0) (E.ρ b) = true := ble_of hle
            have h2 : (H.set b AObj.dead).nx = H.nx := rfl
            simp only [gam, sliceOf, Env.put, h2, if_true, h1, cond_true, Nat.sub_zero]
          · have hid := (hr.fresh H.nx (Nat.le_refl _)).1
            have hov := over_toList V.toList R (len * sz + 0) (by simpa using hle2)
            refine ⟨over R (len * sz + 0) V.toList, fz, (R.extract 0 (0 + len * sz)).toList ++ V.toList, rfl, by rw [over_size]; exact hfz, gams_mono (Env.put_le hid) _ hgall, ?_⟩
            show (∃ rest : List Value, (over R (len * sz + 0) V.toList).toList = _ ++ rest ∧ ∀ v ∈ rest, v.oneCell' = true) ∧ _
            refine ⟨⟨R.toList.drop (len * sz + V.toList.length), ?_, ?_⟩, ?_⟩
            · rw [hov]; simp [List.extract_eq_take_drop]
            · intro v hv
              rw [hR, List.drop_append, List.drop_eq_nil_of_le (by omega), List.nil_append] at hv
              exact hrest v (List.mem_of_mem_drop hv)
            · rw [over_size, hRsz, hc0]; simp [Env.put]
        · exact fgrow (by omega) st' (H.set b .dead) rfl (Post.kill hr b) h8
      · cases h
theorem appendA_sound (ok : CxOk C) (hr : HR C.P E H w) {st xt t' : TypeId} {ts : Array TypeId} (h0 : ts[0]? = some st) (h1 : ts[1]? = some xt) {s x v : AVal} {H' : AHp} (h : appendA C H st xt s x = some (v, H'))
    {us ux : Value} (hus : gam E s = some us) (hux : gam E x = some ux) : ∃ E' w' u, (Builtin.append_ ts t' #[us, ux]).run C.P w = .ok u w' ∧ gam E' v = some u ∧ Post C.P E H w E' H' w' := by
  unfold appendA at h
  split at h
  · rename_i base len cap
    split at h
    · rename_i es hes
      obtain ⟨e, sz⟩ := es
      obtain ⟨hst, hsz, hpos⟩ := elem_und hes
      dsimp only at hst hsz hpos h
      obtain ⟨hsm, h⟩ := cnd_some h
      obtain ⟨hxt, h⟩ := cnd_some h
      obtain ⟨i, z, hi, hz, hbytes, hzs, hz1⟩ := smallT_sound ok hsm hsz
      obtain ⟨dx, hdx, hnoint⟩ : ∃ d, und C xt = some d ∧ ∀ k, d ≠ .int k := by
        unfold srcT at hxt
        cases hd : und C xt with
        | none => rw [hd] at hxt; cases hxt
        | some d =>
          refine ⟨d, rfl, fun k e => ?_⟩
          subst e; rw [hd] at hxt; cases hxt
      split at h
      · rename_i nk hnk
        split at h
        · rename_i old hold
          exact appendC_sound ok hr h0 h1 hus hux hst hsz hpos hi hz hbytes hzs hz1 hdx hnoint hnk hold h
        · cases h
      · cases h
    · cases h
  · cases h
end
end Go.Ev
