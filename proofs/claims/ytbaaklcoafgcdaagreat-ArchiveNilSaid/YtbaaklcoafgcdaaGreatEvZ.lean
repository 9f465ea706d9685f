import Derived.Test.YtbaaklcoafgcdaaGreatEvY
set_option linter.unusedVariables false
set_option linter.unusedSimpArgs false
namespace Go.Ev
section
variable {C : Cx} {E : Env} {H : AHp} {w : World} {n : Nat} {T : Tm} {A : Array Value}
/-! ### The builtin functions that leave memory alone -/
theorem gamE_len : ∀ {es : List (AVal × AVal × Nat)} {l : List MapEntry}, gamE E es = some l → l.length = es.length
  | [], l, h => by simp [gamE] at h; subst h; rfl
  | (k, v, c) :: es, l, h => by
    obtain ⟨x, y, r, _, _, hr, rfl⟩ := gamE_cons h
    simp [gamE_len hr]
theorem lenA_sound (ok : CxOk C) (hr : HR C.P E H w) {t t' : TypeId} {ts : Array TypeId} (hts : ts[0]? = some t) {x r : AVal} (h : lenA C H t x = some r) {u : Value} (hu : gam E x = some u) :
    ∃ z, (Builtin.len_ ts t' #[u]).run C.P w = .ok z w ∧ gam E r = some z := by
  have hargs : (#[u] : Array Value)[0]? = some u := rfl
  unfold lenA at h
  split at h
  · rename_i hd
    split at h
    · rename_i s
      cases h
      rw [str_gam hu]
      exact ⟨_, by simp only [Builtin.len_, hts, List.getElem?_toArray, List.getElem?_cons_zero, Sem.run_bind, run_und ok hd, Result.andThen_ok, Sem.run_pure]; rfl, by simp only [gam, strOf_size, len_eq]; rfl⟩
    · cases h
  · rename_i e hd
    split at h
    · rename_i a m c
      cases h
      obtain ⟨p, y, rfl, _⟩ := slice_gam hu
      exact ⟨_, by simp only [Builtin.len_, hts, List.getElem?_toArray, List.getElem?_cons_zero, Sem.run_bind, run_und ok hd, Result.andThen_ok, Sem.run_pure]; rfl, by simp only [gam]; rfl⟩
    · cases h
  · rename_i m e hd
    cases h
    exact ⟨_, by simp only [Builtin.len_, hts, List.getElem?_toArray, List.getElem?_cons_zero, Sem.run_bind, run_und ok hd, Result.andThen_ok, Sem.run_pure]; rfl, by simp only [gam]; rfl⟩
  · rename_i k e hd
    split at h
    · rename_i mr
      unfold lenM at h
      split at h
      · rename_i es hes
        cases h
        rcases entries_sound hr hes hu with ⟨rfl, rfl⟩ | ⟨i, b, l, c, rfl, rfl, hb, hi, hl, hw⟩
        · exact ⟨_, by simp only [Builtin.len_, hts, List.getElem?_toArray, List.getElem?_cons_zero, Sem.run_bind, run_und ok hd, Result.andThen_ok, Sem.run_pure]; rfl, rfl⟩
        · exact ⟨_, by simp only [Builtin.len_, hts, List.getElem?_toArray, List.getElem?_cons_zero, Sem.run_bind, run_und ok hd, Result.andThen_ok, run_getObj_map hw, Sem.run_pure]; rfl, by simp only [gam, len_eq, ← gamE_len hl]; rfl⟩
      · cases h
    · cases h
  · cases h
theorem capB_sound (ok : CxOk C) {t t' : TypeId} {ts : Array TypeId} (hts : ts[0]? = some t) {x r : AVal} (h : capB C t x = some r) {u : Value} (hu : gam E x = some u) (w : World) :
    ∃ z, (Builtin.cap_ ts t' #[u]).run C.P w = .ok z w ∧ gam E r = some z := by
  unfold capB at h
  split at h
  · rename_i e hd
    split at h
    · rename_i a m c
      obtain ⟨p, y, rfl, hlim, hcase⟩ := slice_cap hu
      have hrun : (Builtin.cap_ ts t' #[.slice p m y]).run C.P w = .ok (goInt y) w := by
        simp only [Builtin.cap_, hts, List.getElem?_toArray, List.getElem?_cons_zero, Sem.run_bind, run_und ok hd, Result.andThen_ok, Sem.run_pure]
      split at h
      · cases h
        obtain ⟨rfl, _⟩ := hcase
        exact ⟨_, hrun, rfl⟩
      · split at h
        · cases h
          obtain ⟨b, x, he, hx, rfl, h1, h2, rfl⟩ := hcase
          cases he
          exact ⟨_, hrun, by simp only [gam, hx, ble_of h2]; rfl⟩
        · cases h
      · split at h
        · cases h
          obtain ⟨b, x, he, hx, rfl, h1, h2, rfl⟩ := hcase
          cases he
          exact ⟨_, hrun, by simp only [gam, hx, ble_of (show E.ρ _ + 1 ≤ _ from h2)]; rfl⟩
        · cases h
      · cases h
    · cases h
  · cases h
theorem minA_sound {x y r : AVal} (h : minA x y = some r) {u v : Value} (hu : gam E x = some u) (hv : gam E y = some v) (ts : Array TypeId) (t : TypeId) (w : World) : ∃ z, (Builtin.min_ ts t #[u, v]).run C.P w = .ok z w ∧ gam E r = some z := by
  unfold minA at h
  split at h
  · split at h
    · cases h
      rw [int_gam hu, int_gam hv]
      refine ⟨_, by simp [Builtin.min_, Builtin.min2]; rfl, ?_⟩
      simp only [gam, ltI_eq]
      split <;> rename_i hc <;> simp [hc, cnd]
    · cases h
  · split at h
    · rename_i a _ b
      cases h
      rw [str_gam hu, str_gam hv]
      refine ⟨.string (if (Op.bytesLess (a.map UInt8.ofNat) (b.map UInt8.ofNat) || (a.map UInt8.ofNat) == (b.map UInt8.ofNat)) then strOf a else strOf b), ?_, ?_⟩
      · simp [Builtin.min_, Builtin.min2, Op.stringOp, strOf_toList, asBool]
      · simp only [gam, less_total, ltS_eq]
        cases Op.bytesLess (b.map UInt8.ofNat) (a.map UInt8.ofNat) <;> rfl
    · cases h
  · cases h
theorem maxA_sound {x y r : AVal} (h : maxA x y = some r) {u v : Value} (hu : gam E x = some u) (hv : gam E y = some v) (ts : Array TypeId) (t : TypeId) (w : World) : ∃ z, (Builtin.max_ ts t #[u, v]).run C.P w = .ok z w ∧ gam E r = some z := by
  unfold maxA at h
  split at h
  · split at h
    · cases h
      rw [int_gam hu, int_gam hv]
      refine ⟨_, by simp [Builtin.max_, Builtin.max2]; rfl, ?_⟩
      simp only [gam, ltI_eq]
      split <;> rename_i hc <;> simp [hc, cnd]
    · cases h
  · split at h
    · rename_i a _ b
      cases h
      rw [str_gam hu, str_gam hv]
      refine ⟨.string (if (!Op.bytesLess (a.map UInt8.ofNat) (b.map UInt8.ofNat)) then strOf a else strOf b), ?_, ?_⟩
      · simp [Builtin.max_, Builtin.max2, Op.stringOp, strOf_toList, asBool]
      · simp only [gam, ltS_eq]
        cases Op.bytesLess (a.map UInt8.ofNat) (b.map UInt8.ofNat) <;> rfl
    · cases h
  · cases h
theorem one_some {α β : Type} {l : Option (List α)} {f : α → Option β} {b : β} (h : one l f = some b) : ∃ a, l = some [a] ∧ f a = some b := by
  unfold one at h
  split at h
  · exact ⟨_, rfl, h⟩
  · cases h
theorem duo_some {α β : Type} {l : Option (List α)} {f : α → α → Option β} {b : β} (h : duo l f = some b) : ∃ a c, l = some [a, c] ∧ f a c = some b := by
  unfold duo at h
  split at h
  · exact ⟨_, _, rfl, h⟩
  · cases h
theorem map_one {a : AVal} {f : Operand → Value} {xs : Array Operand} {u : Value} (h : gams E [a] = some (xs.toList.map f)) (hu : gam E a = some u) : xs.map f = #[u] := by
  obtain ⟨x, y, hx, hy, he⟩ := gams_cons.1 h
  cases hy
  rw [hu] at hx; cases hx
  apply Array.ext'; simp [he]
theorem map_duo {a b : AVal} {f : Operand → Value} {xs : Array Operand} {u v : Value} (h : gams E [a, b] = some (xs.toList.map f)) (hu : gam E a = some u) (hv : gam E b = some v) : xs.map f = #[u, v] := by
  obtain ⟨x, y, hx, hy, he⟩ := gams_cons.1 h
  obtain ⟨x2, y2, hx2, hy2, rfl⟩ := gams_cons.1 hy
  cases hy2
  rw [hu] at hx; cases hx
  rw [hv] at hx2; cases hx2
  apply Array.ext'; simp [he]
theorem one_gams {a : AVal} {vs : List Value} (h : gams E [a] = some vs) : ∃ u, gam E a = some u ∧ vs = [u] := by
  obtain ⟨x, y, hx, hy, rfl⟩ := gams_cons.1 h
  cases hy; exact ⟨x, hx, rfl⟩
theorem duo_gams {a b : AVal} {vs : List Value} (h : gams E [a, b] = some vs) : ∃ u v, gam E a = some u ∧ gam E b = some v ∧ vs = [u, v] := by
  obtain ⟨x, y, hx, hy, rfl⟩ := gams_cons.1 h
  obtain ⟨v, hv, rfl⟩ := one_gams hy
  exact ⟨x, v, hx, hv, rfl⟩
theorem arr_of {f : Operand → Value} {xs : Array Operand} {vs : List Value} (h : xs.toList.map f = vs) : xs.map f = vs.toArray := by apply Array.ext'; simpa using h
/-- a call of a builtin function, as the model runs it -/
theorem run_builtin (o : Oper) (c : Call) (b : Builtin) (ho : o.op = .call c) (hc : c.callee = .builtin b) (f : Operand → Value) (P : Program) (w : World) :
    (execOp f o).run P w = (builtin b c.argTypes o.type (c.args.map fun | .const _ => true | _ => false) (c.args.map f)).run P w := by
  unfold execOp
  simp only [ho, Sem.run_bind, resolve, hc, Sem.run_pure, Result.andThen_ok, invoke]
  rfl
theorem builtinX_sound (ok : CxOk C) (hr : HR C.P E H w) (ht : TR E n T A) {o : Oper} {c : Call} {b : Builtin} (ho : o.op = .call c) (hc : c.callee = .builtin b) {r : AVal}
    (h : builtinX C T H b c = .pure (some r) ∨ builtinX C T H b c = .read (some r)) : ∃ z, (execOp (evalA A) o).run C.P w = .ok (.value z) w ∧ gam E r = some z := by
  rw [run_builtin o c b ho hc]
  have nt : ∀ t, nth c.argTypes.toList 0 = some t → c.argTypes[0]? = some t := fun t h => by rw [nth_eq] at h; simpa using h
  cases b
  case len =>
    rcases h with h | h
    · cases h
    · change XO.read _ = XO.read (some r) at h
      injection h with h
      obtain ⟨t, hT, h⟩ := uno_some h
      obtain ⟨a, ha, h⟩ := one_some h
      obtain ⟨u, hu, he⟩ := one_gams (evs_sound ht ha)
      obtain ⟨z, hz, hg⟩ := lenA_sound (t' := o.type) ok hr (nt t hT) h hu
      exact ⟨z, by rw [arr_of he]; simp only [builtin, Sem.run_bind, hz, Result.andThen_ok, Sem.run_pure], hg⟩
  case cap =>
    rcases h with h | h
    · change XO.pure _ = XO.pure (some r) at h
      injection h with h
      obtain ⟨t, hT, h⟩ := uno_some h
      obtain ⟨a, ha, h⟩ := one_some h
      obtain ⟨u, hu, he⟩ := one_gams (evs_sound ht ha)
      obtain ⟨z, hz, hg⟩ := capB_sound (t' := o.type) ok (nt t hT) h hu w
      exact ⟨z, by rw [arr_of he]; simp only [builtin, Sem.run_bind, hz, Result.andThen_ok, Sem.run_pure], hg⟩
    · cases h
  case min =>
    rcases h with h | h
    · change XO.pure _ = XO.pure (some r) at h
      injection h with h
      obtain ⟨a, b, ha, h⟩ := duo_some h
      obtain ⟨u, v, hu, hv, he⟩ := duo_gams (evs_sound ht ha)
      obtain ⟨z, hz, hg⟩ := minA_sound (C := C) h hu hv c.argTypes o.type w
      exact ⟨z, by rw [arr_of he]; simp only [builtin, Sem.run_bind, hz, Result.andThen_ok, Sem.run_pure], hg⟩
    · cases h
  case max =>
    rcases h with h | h
    · change XO.pure _ = XO.pure (some r) at h
      injection h with h
      obtain ⟨a, b, ha, h⟩ := duo_some h
      obtain ⟨u, v, hu, hv, he⟩ := duo_gams (evs_sound ht ha)
      obtain ⟨z, hz, hg⟩ := maxA_sound (C := C) h hu hv c.argTypes o.type w
      exact ⟨z, by rw [arr_of he]; simp only [builtin, Sem.run_bind, hz, Result.andThen_ok, Sem.run_pure], hg⟩
    · cases h
  case real =>
    rcases h with h | h
    · change XO.pure _ = XO.pure (some r) at h
      injection h with h
      obtain ⟨a, ha, h⟩ := one_some h
      obtain ⟨u, hu, he⟩ := one_gams (evs_sound ht ha)
      unfold realA at h
      split at h
      · rename_i k x y
        cases h
        simp only [gam] at hu; cases hu
        exact ⟨.float k x, by rw [arr_of he]; rfl, rfl⟩
      · cases h
    · cases h
  case imag =>
    rcases h with h | h
    · change XO.pure _ = XO.pure (some r) at h
      injection h with h
      obtain ⟨a, ha, h⟩ := one_some h
      obtain ⟨u, hu, he⟩ := one_gams (evs_sound ht ha)
      unfold imagA at h
      split at h
      · rename_i k x y
        cases h
        simp only [gam] at hu; cases hu
        exact ⟨.float k y, by rw [arr_of he]; rfl, rfl⟩
      · cases h
    · cases h
  case complex =>
    rcases h with h | h
    · change XO.pure _ = XO.pure (some r) at h
      injection h with h
      obtain ⟨a, b, ha, h⟩ := duo_some h
      obtain ⟨u, v, hu, hv, he⟩ := duo_gams (evs_sound ht ha)
      unfold cplxB at h
      split at h
      · split at h
        · rename_i x _ y
          cases h
          simp only [gam] at hu hv; cases hu; cases hv
          exact ⟨.complex .f64 x y, by rw [arr_of he]; rfl, rfl⟩
        · cases h
      · cases h
    · cases h
  all_goals (rcases h with h | h <;> cases h)
theorem evO_sound (ht : TR E n T A) {x : Option Operand} {a : Option AVal} (h : evO T x = some a) : gamO E a (x.map (evalA A)) := by
  cases x with
  | none => cases h; trivial
  | some x =>
    change (match ev T x with
      | some a => some (some a)
      | none => none) = some a at h
    split at h
    · rename_i a' ha; cases h; exact ev_sound ht ha
    · cases h
/-- what an operation that leaves memory alone computes -/
theorem opA_sound (ok : CxOk C) (hr : HR C.P E H w) (ht : TR E n T A) {o : Oper} {r : AVal} (h : opA C T H o.op = .pure (some r) ∨ opA C T H o.op = .read (some r)) :
    ∃ z, (execOp (evalA A) o).run C.P w = .ok (.value z) w ∧ gam E r = some z := by
  have fin : ∀ {s : Sem Value} {z : Value}, s.run C.P w = .ok z w → (do pure (Next.value (← s)) : Sem Next).run C.P w = .ok (.value z) w := fun hs => by
    simp only [Sem.run_bind, hs, Result.andThen_ok, Sem.run_pure]
  cases ho : o.op
  case move x =>
    rw [ho] at h
    rcases h with h | h
    · injection h with h
      exact ⟨_, by simp only [execOp, ho, Sem.run_pure], ev_sound ht h⟩
    · cases h
  case assign x =>
    rw [ho] at h
    rcases h with h | h
    · injection h with h
      exact ⟨_, by simp only [execOp, ho, Sem.run_pure], ev_sound ht h⟩
    · cases h
  case pick c a b =>
    rw [ho] at h
    rcases h with h | h
    · change XO.pure (pickA T (ev T c) a b) = XO.pure (some r) at h
      injection h with h
      unfold pickA at h
      split at h
      · rename_i t hc
        have hct := ev_sound ht hc
        simp only [gam] at hct
        injection hct with hct
        refine ⟨evalA A (if t then a else b), ?_, ?_⟩
        · simp only [execOp, ho, ← hct, asBool, Sem.run_bind, Sem.run_pure, Result.andThen_ok]
          cases t <;> rfl
        · cases t <;> exact ev_sound ht h
      · cases h
    · cases h
  case build t ps =>
    rw [ho] at h
    rcases h with h | h
    · change XO.pure (buildA C t (evParts T ps.toList)) = XO.pure (some r) at h
      injection h with h
      cases hps : evParts T ps.toList with
      | none => rw [hps] at h; cases h
      | some qs =>
        rw [hps] at h
        have hq := evParts_sound ht hps
        have e : (ps.map fun (i, x) => (i, evalA A x)).toList = ps.toList.map fun x => (x.1, evalA A x.2) := by simp
        obtain ⟨z, hz, hg⟩ := buildA_sound (E := E) ok h (qs := ps.map fun (i, x) => (i, evalA A x)) (by rw [e]; exact hq) w
        exact ⟨z, by simp only [execOp, ho]; exact fin hz, hg⟩
    · cases h
  case load t a =>
    rw [ho] at h
    rcases h with h | h
    · cases h
    · change XO.read (uno (ev T a) fun a => loadA C H t a) = XO.read (some r) at h
      injection h with h
      obtain ⟨b, hb, h⟩ := uno_some h
      obtain ⟨z, hz, hg, _⟩ := loadA_sound ok hr (ev_sound ht hb) h
      exact ⟨z, by simp only [execOp, ho]; exact fin hz, hg⟩
  case nilCheck x =>
    rw [ho] at h
    rcases h with h | h
    · change XO.pure (nilOk (ev T x)) = XO.pure (some r) at h
      injection h with h
      unfold nilOk at h
      split at h
      · rename_i p hp
        have hx := ev_sound ht hp
        obtain ⟨y, _, hy⟩ := ptr_gam hx
        rw [hp] at h; cases h
        exact ⟨evalA A x, by simp only [execOp, ho, hy]; rfl, hx⟩
      · rename_i f a b hp
        have hx := ev_sound ht hp
        obtain ⟨p, q, hy, _⟩ := func_gam hx
        rw [hp] at h; cases h
        exact ⟨evalA A x, by simp only [execOp, ho, hy]; rfl, hx⟩
      · rename_i l hp
        have hx := ev_sound ht hp
        rw [hp] at h; cases h
        have hy : ∃ y, evalA A x = .func (.yield y) #[] #[] := by
          simp only [gam] at hx
          split at hx
          · rename_i y _; injection hx with hx; exact ⟨y, hx.symm⟩
          · cases hx
        obtain ⟨y, hy⟩ := hy
        exact ⟨evalA A x, by simp only [execOp, ho, hy]; rfl, hx⟩
      · cases h
    · cases h
  case binOp op t x y yt =>
    rw [ho] at h
    rcases h with h | h
    · change XO.pure (dual (ev T x) (ev T y) fun a b => binA C op t a b) = XO.pure (some r) at h
      injection h with h
      obtain ⟨a, b, ha, hb, h⟩ := dual_some h
      obtain ⟨hg, z, hz, hgz⟩ := binA_sound ok h (ev_sound ht ha) (ev_sound ht hb) x y w
      exact ⟨z, by simp only [execOp, ho, Sem.run_bind, hg, Result.andThen_ok, hz, Sem.run_pure], hgz⟩
    · cases h
  case unOp op t x =>
    rw [ho] at h
    rcases h with h | h
    · change XO.pure (uno (ev T x) fun a => unA op a) = XO.pure (some r) at h
      injection h with h
      obtain ⟨b, hb, h⟩ := uno_some h
      obtain ⟨z, hz, hg⟩ := unA_sound (C := C) h (ev_sound ht hb) w
      exact ⟨z, by simp only [execOp, ho]; exact fin hz, hg⟩
    · cases h
  case convert s d x =>
    rw [ho] at h
    change convX C T H s d x = _ ∨ convX C T H s d x = _ at h
    unfold convX at h
    split at h
    · rcases h with h | h
      · cases h
      · injection h with h
        obtain ⟨b, hb, h⟩ := uno_some h
        obtain ⟨z, hz, hg⟩ := convA_sound ok hr h (ev_sound ht hb)
        exact ⟨z, by simp only [execOp, ho]; exact fin hz, hg⟩
    · rcases h with h | h <;> cases h
    · rcases h with h | h <;> cases h
  case makeFunc fn a b =>
    rw [ho] at h
    rcases h with h | h
    · change XO.pure (funcA fn (evs T a.toList) (evs T b.toList)) = XO.pure (some r) at h
      injection h with h
      unfold funcA at h
      split at h
      · rename_i f
        split at h
        · rename_i p hp
          split at h
          · rename_i q hq
            cases h
            refine ⟨.func (.func f) (a.map (evalA A)) (b.map (evalA A)), by simp only [execOp, ho]; exact fin rfl, ?_⟩
            simp only [gam, evs_sound ht hp, evs_sound ht hq]
            congr 2
            · apply Array.ext'; simp
            · apply Array.ext'; simp
          · cases h
        · cases h
      · cases h
    · cases h
  case slice t x l hh m =>
    rw [ho] at h
    rcases h with h | h
    · change XO.pure (uno (ev T x) fun a => uno (evO T l) fun l => uno (evO T hh) fun h => uno (evO T m) fun m => sliceA C t a l h m) = XO.pure (some r) at h
      injection h with h
      obtain ⟨a, ha, h⟩ := uno_some h
      obtain ⟨la, hl, h⟩ := uno_some h
      obtain ⟨ha', hh', h⟩ := uno_some h
      obtain ⟨ma, hm, h⟩ := uno_some h
      obtain ⟨z, hz, hg⟩ := sliceA_sound ok h (ev_sound ht ha) (evO_sound ht hl) (evO_sound ht hh') (evO_sound ht hm) w
      exact ⟨z, by simp only [execOp, ho]; exact fin hz, hg⟩
    · cases h
  case fieldAddr s x f =>
    rw [ho] at h
    rcases h with h | h
    · change XO.pure (fieldAd C s f (ev T x)) = XO.pure (some r) at h
      injection h with h
      cases hx : ev T x with
      | none => rw [hx] at h; cases h
      | some a =>
        rw [hx] at h
        obtain ⟨z, hz, hg⟩ := fieldAd_sound ok h (ev_sound ht hx) w
        exact ⟨z, by simp only [execOp, ho]; exact fin hz, hg⟩
    · cases h
  case field t x f =>
    rw [ho] at h
    rcases h with h | h
    · change XO.pure (fieldV C t f (ev T x)) = XO.pure (some r) at h
      injection h with h
      cases hx : ev T x with
      | none => rw [hx] at h; cases h
      | some a =>
        rw [hx] at h
        obtain ⟨z, hz, hg⟩ := fieldV_sound ok h (ev_sound ht hx) w
        exact ⟨z, by simp only [execOp, ho]; exact fin hz, hg⟩
    · cases h
  case indexAddr t x i =>
    rw [ho] at h
    rcases h with h | h
    · change XO.pure (indexAd C t (ev T x) (ev T i)) = XO.pure (some r) at h
      injection h with h
      cases hx : ev T x with
      | none => rw [hx] at h; unfold indexAd at h; split at h <;> cases h
      | some a => cases hi : ev T i with
        | none => rw [hi] at h; cases h
        | some j =>
          rw [hx, hi] at h
          obtain ⟨z, hz, hg⟩ := indexAd_sound ok h (ev_sound ht hx) (ev_sound ht hi) w
          exact ⟨z, by simp only [execOp, ho]; exact fin hz, hg⟩
    · cases h
  case index t x i =>
    rw [ho] at h
    rcases h with h | h
    · change XO.pure (indexV C t (ev T x) (ev T i)) = XO.pure (some r) at h
      injection h with h
      cases hx : ev T x with
      | none => rw [hx] at h; unfold indexV at h; split at h <;> cases h
      | some a => cases hi : ev T i with
        | none => rw [hi] at h; cases h
        | some j =>
          rw [hx, hi] at h
          obtain ⟨z, hz, hg⟩ := indexV_sound ok h (ev_sound ht hx) (ev_sound ht hi) w
          exact ⟨z, by simp only [execOp, ho]; exact fin hz, hg⟩
    · cases h
  case lookup t m k cok =>
    rw [ho] at h
    rcases h with h | h
    · cases h
    · change XO.read (dual (ev T m) (ev T k) fun m k => lookA C H t m k cok) = XO.read (some r) at h
      injection h with h
      obtain ⟨a, b, ha, hb, h⟩ := dual_some h
      obtain ⟨z, hz, hg⟩ := lookA_sound ok hr h (ev_sound ht ha) (ev_sound ht hb)
      exact ⟨z, by simp only [execOp, ho]; exact fin hz, hg⟩
  case makeInterface t x =>
    rw [ho] at h
    rcases h with h | h
    · change XO.pure (ifaceA C t (ev T x)) = XO.pure (some r) at h
      injection h with h
      unfold ifaceA at h
      split at h
      · rename_i v hv
        split at h
        · cases h
        · rename_i d hne hd
          cases h
          refine ⟨.iface t (evalA A x), ?_, by simp only [gam, ev_sound ht hv]⟩
          have : (Instr.makeInterface t (evalA A x)).run C.P w = .ok (.iface t (evalA A x)) w := by
            simp only [Instr.makeInterface, Sem.run_bind, run_und ok hd, Result.andThen_ok]
            cases d <;> first | rfl | exact absurd rfl (hne _)
          simp only [execOp, ho]; exact fin this
        · cases h
      · cases h
    · cases h
  case extract t i =>
    rw [ho] at h
    rcases h with h | h
    · change XO.pure (extractA (ev T t) i) = XO.pure (some r) at h
      injection h with h
      unfold extractA at h
      split at h
      · rename_i vs hvs
        rw [nth_eq] at h
        obtain ⟨V, hV, hgV⟩ := tuple_gam (ev_sound ht hvs)
        obtain ⟨z, hz, hg⟩ := gams_get hgV h
        have hz' : V[i]? = some z := by simpa using hz
        refine ⟨z, ?_, hg⟩
        have : (Instr.extract (evalA A t) i).run C.P w = .ok z w := by simp only [Instr.extract, hV, hz', Sem.run_pure]
        simp only [execOp, ho]; exact fin this
      · cases h
    · cases h
  case call c =>
    rw [ho] at h
    change callX C T H c = _ ∨ callX C T H c = _ at h
    unfold callX at h
    split at h
    · rename_i b hb
      exact builtinX_sound ok hr ht ho hb h
    · rcases h with h | h <;> cases h
  all_goals (rw [ho] at h; rcases h with h | h <;> cases h)
end
end Go.Ev
