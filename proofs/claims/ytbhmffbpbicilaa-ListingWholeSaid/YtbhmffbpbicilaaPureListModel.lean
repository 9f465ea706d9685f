import Derived.Test.YtbhmffbpbicilaaPureListCommon
namespace Go.Proofs.Ytbhmffbpbicilaa.Pure
open Go.RowKit Go.Proofs.Ytbhmffbpbicilaa.P Go.Proofs.YtbhmffbpbicilaaW.PrintWords Go.Proofs.YtbhmffbpbicilaaW.PrintLast
/-! ### The entries of a list -/
def begB (s p : ByteArray) : Bool := decide (p.size ≤ s.size) && ((s.extract 0 p.size).toList == p.toList)
theorem begins_f (s p : ByteArray) : r20_begins.f s p = some (begB s p) := by
  unfold r20_begins.f begB
  by_cases h : p.size ≤ s.size
  · rw [if_pos (by omega), if_pos (by omega), if_pos (by omega), decide_eq_true h, Int.toNat_natCast, Bool.true_and]
  · rw [if_neg (by omega), decide_eq_false h, Bool.false_and]
theorem hasPrefix_f (s p : ByteArray) : strings_HasPrefix.f s p = some (begB s p) := by
  have h : stringslite_HasPrefix.f s p = some (begB s p) := begins_f s p
  unfold strings_HasPrefix.f
  rw [h]
  rfl
theorem begB_size {s p : ByteArray} (h : begB s p = true) : p.size ≤ s.size := by
  unfold begB at h
  rw [Bool.and_eq_true, decide_eq_true_eq] at h
  exact h.1
def ents (p d a : ByteArray) : List ByteArray → ByteArray × Bool → List (ByteArray × Bool)
  | [], _ => []
  | s :: l, last => if begB s p = true then
      (if Op.bytesLess a.toList (entOf s d p.size).1.toList = true then
        (if lpSame (entOf s d p.size).1 last.1 (entOf s d p.size).2 last.2 = true then ents p d a l last else entOf s d p.size :: ents p d a l (entOf s d p.size))
      else ents p d a l last)
    else ents p d a l last
def small (l : List ByteArray) : Prop := ∀ s ∈ l, s.size ≤ 9223372036854775807
theorem lpEnts_eq (p d a : ByteArray) (hd : d.size ≤ 1) : ∀ (l : List ByteArray) (last : ByteArray × Bool), small l → lpEnts p d a l last = some (ents p d a l last)
  | [], _, _ => rfl
  | s :: l, last, hs => by
    have ih := fun last => lpEnts_eq p d a hd l last (fun x hx => hs x (List.mem_cons_of_mem _ hx))
    unfold lpEnts ents
    rw [hasPrefix_f]
    simp only [Option.bind_some]
    cases hb : begB s p with
    | false => simp only [Bool.false_eq_true, if_false]; exact ih last
    | true =>
      simp only [if_true]
      rw [of_f s p d (hs s List.mem_cons_self) hd (begB_size hb)]
      simp only [Option.bind_some, bl_not]
      cases hl : Op.bytesLess a.toList (entOf s d p.size).1.toList with
      | false => simp only [Bool.not_false, Bool.false_eq_true, if_true, if_false]; exact ih last
      | true =>
        simp only [Bool.not_true, Bool.false_eq_true, if_true, if_false]
        cases hq : lpSame (entOf s d p.size).1 last.1 (entOf s d p.size).2 last.2 with
        | true => simp only [if_true]; exact ih last
        | false =>
          simp only [Bool.false_eq_true, if_false]
          rw [ih]
          rfl
def toS (x : ByteArray × Bool) : S51 := ⟨x.1, x.2⟩
def ofS (s : S51) : ByteArray × Bool := (s.f0, s.f1)
theorem ofS_toS (l : List (ByteArray × Bool)) : (l.map toS).map ofS = l := by
  rw [List.map_map]
  exact List.map_id l
def lastOf (a : ByteArray) (out : List S51) : ByteArray × Bool := (out.getLast?.map ofS).getD (a, false)
theorem lastOf_push (a : ByteArray) (out : List S51) (x : ByteArray × Bool) : lastOf a (out ++ [toS x]) = x := by
  unfold lastOf
  simp
  rfl
theorem drop_rd (l : List ByteArray) (i : Nat) (h : i < l.length) : l.drop i = rdOf ByteArray.empty l (i : Int) :: l.drop (i + 1) := by
  rw [List.drop_eq_getElem_cons h]
  congr 1
  simp [rdOf, List.getD_eq_getElem?_getD, h]
theorem rd_mem (l : List ByteArray) (i : Nat) (h : i < l.length) : rdOf ByteArray.empty l (i : Int) ∈ l := by
  have : rdOf ByteArray.empty l (i : Int) = l[i] := by simp [rdOf, List.getD_eq_getElem?_getD, h]
  rw [this]
  exact List.getElem_mem h
theorem rd_last (out : List S51) (a : ByteArray) (h : out ≠ []) : rd_T51 out (((out.length - 1 : Nat)) : Int) = toS (lastOf a out) := by
  have hl : 0 < out.length := List.length_pos_iff.2 h
  unfold rd_T51 lastOf
  rw [Int.toNat_natCast, List.getLast?_eq_getElem?, List.getD_eq_getElem?_getD, List.getElem?_eq_getElem (by omega)]
  rfl
theorem list_l0 (l : List ByteArray) (p d a : ByteArray) (hd : d.size ≤ 1) (ha : a.size ≤ 9223372036854775807) (hs : small l) (hlen : l.length ≤ 500) : ∀ n i out, l.length - i = n → i ≤ l.length → out.length ≤ i →
    Ev (fun k => r20_List.l0 k l p d a out (i : Int)) (out ++ (ents p d a (l.drop i) (lastOf a out)).map toS)
  | n, i, out, hn, h1, ho => by
    by_cases hi : i < l.length
    · have hr := drop_rd l i hi
      have hm := rd_mem l i hi
      have hsz := hs _ hm
      generalize hsv : rdOf ByteArray.empty l (i : Int) = s at hr hm hsz
      have ih := fun out' (ho' : out'.length ≤ i + 1) => list_l0 l p d a hd ha hs hlen (n - 1) (i + 1) out' (by omega) (by omega) ho'
      rw [hr]
      cases hb : begB s p with
      | false =>
        have he : ents p d a (s :: l.drop (i + 1)) (lastOf a out) = ents p d a (l.drop (i + 1)) (lastOf a out) := by
          show (if begB s p = true then _ else _) = _
          rw [hb]
          rfl
        rw [he]
        refine Ev.succ (fun k => ?_) (ih out (by omega))
        simp only [r20_List.l0]
        rw [if_pos (by omega), if_pos (by omega), hsv, begins_f, hb, wr_up i (by omega)]
        rfl
      | true =>
        have hp := begB_size hb
        refine Ev.succ (G := fun k => (r20_entry.f k s p d).bind fun e => (r02_Below.f k a e.1).bind fun t =>
          if t = true then (if out ≠ [] ∧ lpSame e.1 (lastOf a out).1 e.2 (lastOf a out).2 = true then r20_List.l0 k l p d a out ((i + 1 : Nat) : Int) else r20_List.l0 k l p d a (out ++ [toS e]) ((i + 1 : Nat) : Int))
          else r20_List.l0 k l p d a out ((i + 1 : Nat) : Int)) (fun k => ?_) ?_
        · simp only [r20_List.l0]
          rw [if_pos (by omega), if_pos (by omega), hsv, begins_f, hb, wr_up i (by omega)]
          simp only [Option.bind_some, if_true]
          congr 1
          funext e
          congr 1
          funext t
          cases t with
          | false => rfl
          | true =>
            simp only [if_true]
            by_cases h0 : out = []
            · subst h0
              rw [if_pos (by rfl), if_pos (by decide), if_neg (by simp)]
              rfl
            · have hl : 0 < out.length := List.length_pos_iff.2 h0
              have hw : wrap64 ((out.length : Int) - 1) = ((out.length - 1 : Nat) : Int) := by rw [wr_in _ (by omega)]; omega
              rw [if_neg (by omega), hw, if_pos (by omega), if_pos (by omega), rd_last out a h0]
              have hc : (!((toS (lastOf a out)).f0.toList == e.1.toList) || !((toS (lastOf a out)).f1 == e.2)) = !lpSame e.1 (lastOf a out).1 e.2 (lastOf a out).2 := by
                unfold lpSame toS
                rw [Bool.not_and, Bool.beq_comm (a := (lastOf a out).2), BEq.comm (a := (lastOf a out).1.toList)]
              rw [hc]
              cases hq : lpSame e.1 (lastOf a out).1 e.2 (lastOf a out).2 with
              | true => rw [if_neg (by simp), if_pos ⟨h0, rfl⟩]
              | false => rw [if_pos (by rfl), if_pos (by omega), if_neg (by simp)]; rfl
        · refine Ev.bind (entry_f s p d hsz hd hp) (Ev.bind (below_f a _ ha) ?_)
          have he : ents p d a (s :: l.drop (i + 1)) (lastOf a out) = if Op.bytesLess a.toList (entOf s d p.size).1.toList = true then
              (if lpSame (entOf s d p.size).1 (lastOf a out).1 (entOf s d p.size).2 (lastOf a out).2 = true then ents p d a (l.drop (i + 1)) (lastOf a out) else entOf s d p.size :: ents p d a (l.drop (i + 1)) (entOf s d p.size))
              else ents p d a (l.drop (i + 1)) (lastOf a out) := by
            show (if begB s p = true then _ else _) = _
            rw [hb]
            rfl
          rw [he]
          generalize hev : entOf s d p.size = e
          cases hlt : Op.bytesLess a.toList e.1.toList with
          | false =>
            simp only [Bool.false_eq_true, if_false]
            exact ih out (by omega)
          | true =>
            simp only [if_true]
            by_cases hq : lpSame e.1 (lastOf a out).1 e.2 (lastOf a out).2 = true
            · have h0 : out ≠ [] := by
                rintro rfl
                unfold lpSame at hq
                rw [Bool.and_eq_true] at hq
                have h2 : e.1.toList = a.toList := by simpa [lastOf] using hq.1
                rw [h2] at hlt
                rcases bl_cases a.toList a.toList with ⟨_, q, _⟩ | ⟨q, _, _⟩ | ⟨q, _, _⟩ <;> rw [q] at hlt <;> cases hlt
              simp only [if_pos hq, if_pos (And.intro h0 hq)]
              exact ih out (by omega)
            · simp only [if_neg hq, if_neg (fun h : out ≠ [] ∧ _ => hq h.2)]
              have := ih (out ++ [toS e]) (by simp; omega)
              rw [lastOf_push, List.append_assoc] at this
              exact this
    · have hnil : l.drop i = [] := List.drop_eq_nil_of_le (by omega)
      rw [hnil]
      have he : out ++ (ents p d a [] (lastOf a out)).map toS = out := by simp [ents]
      rw [he]
      refine Ev.succ (G := fun _ => some out) (fun k => ?_) (Ev.const _)
      simp only [r20_List.l0]
      rw [if_neg (by omega)]
  termination_by n => n
  decreasing_by omega
theorem list_f (l : List ByteArray) (p d a : ByteArray) (hd : d.size ≤ 1) (ha : a.size ≤ 9223372036854775807) (hs : small l) (hlen : l.length ≤ 500) :
    Ev (fun k => r20_List.f k l p d a) ((ents p d a l (a, false)).map toS) := by
  have := list_l0 l p d a hd ha hs hlen _ 0 [] rfl (by omega) (by simp)
  rw [List.drop_zero, List.nil_append] at this
  exact this
/-! ### A page -/
def pageNext (es : List S51) (m : Nat) (nx : ByteArray) : ByteArray := if m < es.length then (rd_T51 es ((m - 1 : Nat) : Int)).f0 else nx
theorem page_l1 (es : List S51) (hes : es.length ≤ 500) (m : Nat) (hm : 1 ≤ m ∧ m ≤ 50) : ∀ n i (ns ps : List ByteArray), m - i = n → i ≤ m → i ≤ es.length → ns.length ≤ i → ps.length ≤ i →
    Ev (fun k => r20_Page.l1 k (m : Int) es (i : Int) ns ps ⟨#[]⟩ false)
      (ns ++ lpNames (((es.take m).drop i).map ofS), ps ++ lpPrefs (((es.take m).drop i).map ofS), pageNext es m ⟨#[]⟩, decide (m < es.length), 0)
  | n, i, ns, ps, hn, h1, h2, hns, hps => by
    by_cases hi : i < es.length ∧ i < m
    · have hcons : (es.take m).drop i = rd_T51 es (i : Int) :: (es.take m).drop (i + 1) := by
        rw [List.drop_eq_getElem_cons (by rw [List.length_take]; omega)]
        congr 1
        simp [rd_T51, List.getD_eq_getElem?_getD, hi.1]
      rw [hcons]
      have ih := fun ns' ps' a b => page_l1 es hes m hm (n - 1) (i + 1) ns' ps' (by omega) (by omega) (by omega) a b
      generalize hsv : rd_T51 es (i : Int) = s at hcons ⊢
      refine Ev.succ (G := fun k => r20_Page.j2 k (m : Int) es (i : Int) true ns ps ⟨#[]⟩ false) (fun k => ?_) ?_
      · simp only [r20_Page.l1]
        rw [if_pos (by omega), decide_eq_true (by omega)]
      · refine Ev.succ (G := fun k => if s.f1 = true then r20_Page.l1 k (m : Int) es ((i + 1 : Nat) : Int) ns (ps ++ [s.f0]) ⟨#[]⟩ false else r20_Page.l1 k (m : Int) es ((i + 1 : Nat) : Int) (ns ++ [s.f0]) ps ⟨#[]⟩ false) (fun k => ?_) ?_
        · simp only [r20_Page.j2]
          rw [if_pos trivial, if_pos (by omega), if_pos (by omega), hsv, wr_up i (by omega), if_pos (by omega : ps.length < 8796093022208), if_pos (by omega : ns.length < 8796093022208)]
        · cases hf : s.f1 with
          | true =>
            have := ih ns (ps ++ [s.f0]) (by omega) (by simp; omega)
            rw [List.append_assoc] at this
            have e1 : lpNames ((s :: (es.take m).drop (i + 1)).map ofS) = lpNames (((es.take m).drop (i + 1)).map ofS) := by simp [lpNames, ofS, hf]
            have e2 : lpPrefs ((s :: (es.take m).drop (i + 1)).map ofS) = [s.f0] ++ lpPrefs (((es.take m).drop (i + 1)).map ofS) := by simp [lpPrefs, ofS, hf]
            rw [e1, e2]
            exact Ev.congr (fun k => if_pos rfl) this
          | false =>
            have := ih (ns ++ [s.f0]) ps (by simp; omega) (by omega)
            rw [List.append_assoc] at this
            have e1 : lpNames ((s :: (es.take m).drop (i + 1)).map ofS) = [s.f0] ++ lpNames (((es.take m).drop (i + 1)).map ofS) := by simp [lpNames, ofS, hf]
            have e2 : lpPrefs ((s :: (es.take m).drop (i + 1)).map ofS) = lpPrefs (((es.take m).drop (i + 1)).map ofS) := by simp [lpPrefs, ofS, hf]
            rw [e1, e2]
            exact Ev.congr (fun k => if_neg (by simp)) this
    · have hnil : (es.take m).drop i = [] := List.drop_eq_nil_of_le (by rw [List.length_take]; omega)
      rw [hnil]
      have e1 : lpNames (([] : List S51).map ofS) = [] := rfl
      have e2 : lpPrefs (([] : List S51).map ofS) = [] := rfl
      rw [e1, e2, List.append_nil, List.append_nil]
      refine Ev.succ (G := fun k => r20_Page.j2 k (m : Int) es (i : Int) false ns ps ⟨#[]⟩ false) (fun k => ?_) (Ev.succ (G := fun _ => some (ns, ps, pageNext es m ⟨#[]⟩, decide (m < es.length), 0)) (fun k => ?_) (Ev.const _))
      · simp only [r20_Page.l1]
        by_cases e : (i : Int) < (es.length : Int)
        · rw [if_pos e, decide_eq_false (by omega)]
        · rw [if_neg e]
      · simp only [r20_Page.j2]
        rw [if_neg (by simp)]
        unfold pageNext
        by_cases e : m < es.length
        · have hw : wrap64 ((m : Int) - 1) = ((m - 1 : Nat) : Int) := by rw [wr_in _ (by omega)]; omega
          rw [if_pos (by omega), hw, if_pos (by omega), if_pos (by omega), if_pos e, decide_eq_true e]
        · rw [if_neg (by omega), if_neg e, decide_eq_false e]
  termination_by n => n
  decreasing_by all_goals omega
def pageOf (es : List (ByteArray × Bool)) (m : Nat) : List ByteArray × List ByteArray × ByteArray × Bool × Int :=
  (lpNames (es.take m), lpPrefs (es.take m), if m < es.length then (es.getD (m - 1) (⟨#[]⟩, false)).1 else ⟨#[]⟩, decide (m < es.length), 0)
theorem page_l1' (es : List (ByteArray × Bool)) (hes : es.length ≤ 500) (m : Nat) (hm : 1 ≤ m ∧ m ≤ 50) : Ev (fun k => r20_Page.l1 k (m : Int) (es.map toS) 0 [] [] ⟨#[]⟩ false) (pageOf es m) := by
  have h := page_l1 (es.map toS) (by rw [List.length_map]; exact hes) m hm _ 0 [] [] rfl (by omega) (by omega) (by simp) (by simp)
  rw [List.drop_zero, ← List.map_take, ofS_toS] at h
  unfold pageOf
  have e : pageNext (es.map toS) m ⟨#[]⟩ = if m < es.length then (es.getD (m - 1) (⟨#[]⟩, false)).1 else ⟨#[]⟩ := by
    unfold pageNext
    rw [List.length_map]
    by_cases h : m < es.length
    · rw [if_pos h, if_pos h]
      unfold rd_T51
      rw [Int.toNat_natCast, List.getD_eq_getElem?_getD, List.getD_eq_getElem?_getD, List.getElem?_map, List.getElem?_eq_getElem (by omega)]
      rfl
    · rw [if_neg h, if_neg h]
  rw [e, List.length_map] at h
  exact h
theorem ents_length (p d a : ByteArray) : ∀ (l : List ByteArray) (last : ByteArray × Bool), (ents p d a l last).length ≤ l.length
  | [], _ => Nat.le_refl _
  | s :: l, last => by
    have ih := ents_length p d a l
    unfold ents
    repeat' split
    all_goals (simp only [List.length_cons]; have h1 := ih last; have h2 := ih (entOf s d p.size); omega)
theorem page_l0 (l : List ByteArray) (p d a : ByteArray) (m : Nat) (hm : 1 ≤ m ∧ m ≤ 50) (hd : d.size ≤ 1) (ha : a.size ≤ 9223372036854775807) (hs : small l) (hlen : l.length ≤ 500) : ∀ n i, l.length - i = n → 1 ≤ i →
    Ev (fun k => r20_Page.l0 k l p d a (m : Int) (i : Int)) (if lpAsc (l.drop (i - 1)) = true then pageOf (ents p d a l (a, false)) m else ([], [], ⟨#[]⟩, false, 4))
  | n, i, hn, h1 => by
    by_cases hi : i < l.length
    · have c1 := drop_rd l (i - 1) (by omega)
      have c2 := drop_rd l i hi
      have hz := hs _ (rd_mem l (i - 1) (by omega))
      have hw : wrap64 ((i : Int) - 1) = ((i - 1 : Nat) : Int) := by rw [wr_in _ (by omega)]; omega
      rw [show i - 1 + 1 = i by omega] at c1
      have hasc : lpAsc (l.drop (i - 1)) = (Op.bytesLess (rdOf ByteArray.empty l ((i - 1 : Nat) : Int)).toList (rdOf ByteArray.empty l (i : Int)).toList && lpAsc (l.drop i)) := by
        rw [c1, c2]
        rfl
      rw [hasc]
      refine Ev.succ (G := fun k => (r02_Below.f k (rdOf ByteArray.empty l ((i - 1 : Nat) : Int)) (rdOf ByteArray.empty l (i : Int))).bind fun t => if t = true then r20_Page.l0 k l p d a (m : Int) ((i + 1 : Nat) : Int) else some ([], [], ⟨#[]⟩, false, 4)) (fun k => ?_) ?_
      · simp only [r20_Page.l0]
        rw [if_pos (by omega), hw, if_pos (by omega), if_pos (by omega), if_pos (by omega), wr_up i (by omega)]
      · refine Ev.bind (below_f _ _ hz) ?_
        cases hb : Op.bytesLess (rdOf ByteArray.empty l ((i - 1 : Nat) : Int)).toList (rdOf ByteArray.empty l (i : Int)).toList with
        | false => exact Ev.const _
        | true =>
          have ih := page_l0 l p d a m hm hd ha hs hlen (n - 1) (i + 1) (by omega) (by omega)
          rw [show i + 1 - 1 = i by omega] at ih
          exact ih
    · have hasc : lpAsc (l.drop (i - 1)) = true := by
        cases hd : l.drop (i - 1) with
        | nil => rfl
        | cons x r =>
          have := congrArg List.length hd
          rw [List.length_drop, List.length_cons] at this
          obtain rfl : r = [] := List.eq_nil_of_length_eq_zero (by omega)
          rfl
      rw [hasc, if_pos rfl]
      refine Ev.succ (G := fun k => (r20_List.f k l p d a).bind fun t => r20_Page.l1 k (m : Int) t 0 [] [] ⟨#[]⟩ false) (fun k => ?_) ?_
      · simp only [r20_Page.l0]
        rw [if_neg (by omega)]
      · exact Ev.bind (list_f l p d a hd ha hs hlen) (page_l1' _ (Nat.le_trans (ents_length p d a l _) hlen) m hm)
  termination_by n => n
  decreasing_by omega
theorem check_ok {p d a : ByteArray} {m : Int} (h : listing_Check.f p d a m = some 0) : p.size ≤ 32 ∧ d.size ≤ 1 ∧ a.size ≤ 32 ∧ 1 ≤ m ∧ m ≤ 50 := by
  unfold listing_Check.f at h
  repeat' split at h
  all_goals first | (simp at h; done) | skip
  all_goals omega
theorem check_some (p d a : ByteArray) (m : Int) : ∃ c, listing_Check.f p d a m = some c := by
  unfold listing_Check.f
  repeat' split
  all_goals exact ⟨_, rfl⟩
theorem r_page_f (l : List ByteArray) (p d a : ByteArray) (m : Int) (hs : small l) (hlen : l.length ≤ 500) : ∃ r, listing_Page.f l p d a m = some r ∧ Ev (fun k => r20_Page.f k l p d a m) r := by
  obtain ⟨c, hc⟩ := check_some p d a m
  have hr : r20_Check.f p d a m = some c := hc
  unfold listing_Page.f r20_Page.f
  rw [hc, hr]
  simp only [Option.bind_some]
  by_cases h0 : c = 0
  · subst h0
    obtain ⟨h1, h2, h3, h4, h5⟩ := check_ok hc
    simp only [if_true]
    obtain ⟨n, rfl⟩ := Int.eq_ofNat_of_zero_le (by omega : 0 ≤ m)
    have h := page_l0 l p d a n (by omega) h2 (by omega) hs hlen _ 1 rfl (by omega)
    rw [show 1 - 1 = 0 from rfl, List.drop_zero] at h
    rw [lpEnts_eq p d a h2 l (a, false) hs, Int.toNat_natCast]
    by_cases hq : lpAsc l = true
    · rw [if_pos hq] at h ⊢
      exact ⟨_, rfl, h⟩
    · rw [if_neg hq] at h ⊢
      exact ⟨_, rfl, h⟩
  · simp only [if_neg h0]
    exact ⟨_, rfl, Ev.const _⟩
/-! ### Same -/
theorem same_l0 (l : List ByteArray) (hl : l.length ≤ 9223372036854775806) : ∀ n i, l.length - i = n → Ev (fun k => r20_SameTexts.l0 k l l (i : Int)) true
  | n, i, hn => by
    by_cases hi : i < l.length
    · refine Ev.succ (fun k => ?_) (same_l0 l hl (n - 1) (i + 1) (by omega))
      simp only [r20_SameTexts.l0]
      rw [if_pos (by omega), if_pos (by omega), if_pos (by omega), if_pos trivial, wr_up i (by omega)]
    · refine Ev.succ (G := fun _ => some true) (fun k => ?_) (Ev.const _)
      simp only [r20_SameTexts.l0]
      rw [if_neg (by omega)]
  termination_by n => n
  decreasing_by omega
theorem sameTexts_f (l : List ByteArray) (hl : l.length ≤ 9223372036854775806) : Ev (fun k => r20_SameTexts.f k l l) true := by
  refine Ev.congr (fun k => ?_) (same_l0 l hl _ 0 rfl)
  unfold r20_SameTexts.f
  rw [if_pos rfl]
  rfl
theorem same_f (ns ps : List ByteArray) (nx : ByteArray) (mo : Bool) (hn : ns.length ≤ 9223372036854775806) (hp : ps.length ≤ 9223372036854775806) : Ev (fun k => r20_Same.f k ns ps nx mo ns ps nx mo) true := by
  refine Ev.bind (sameTexts_f ns hn) ?_
  simp only [if_true]
  refine Ev.bind (sameTexts_f ps hp) ?_
  simp only [if_true, beq_self_eq_true]
  exact Ev.const _
end Go.Proofs.Ytbhmffbpbicilaa.Pure
