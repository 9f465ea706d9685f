import Derived.Test.YtbhmffbpbicilaaPureListModel
import Derived.Test.YtbhmffbpbicilaaPx13
namespace Go.Proofs.Ytbhmffbpbicilaa.Pure
open Go.RowKit Go.Proofs.Ytbhmffbpbicilaa.P Go.Proofs.YtbhmffbpbicilaaW.PrintWords Go.Proofs.YtbhmffbpbicilaaW.PrintLast
/-! ### The order of texts -/
def Lt (x y : ByteArray) : Prop := Op.bytesLess x.toList y.toList = true
theorem bl_trans : ∀ {x y z : List UInt8}, Op.bytesLess x y = true → Op.bytesLess y z = true → Op.bytesLess x z = true
  | x, [], z, h, _ => by cases x <;> simp [Op.bytesLess] at h
  | x, _ :: _, [], _, h => by simp [Op.bytesLess] at h
  | [], _ :: _, _ :: _, _, _ => rfl
  | a :: x, b :: y, c :: z, h1, h2 => by
    unfold Op.bytesLess at h1 h2 ⊢
    rw [Bool.or_eq_true, Bool.and_eq_true, decide_eq_true_eq, beq_iff_eq] at h1 h2 ⊢
    rcases h1 with h1 | ⟨rfl, h1⟩
    · rcases h2 with h2 | ⟨rfl, h2⟩
      · left
        rw [UInt8.lt_iff_toNat_lt] at h1 h2 ⊢
        omega
      · exact .inl h1
    · rcases h2 with h2 | ⟨rfl, h2⟩
      · exact .inl h2
      · exact .inr ⟨rfl, bl_trans h1 h2⟩
theorem bl_irr (x : List UInt8) : Op.bytesLess x x = false := by
  rcases bl_cases x x with ⟨_, q, _⟩ | ⟨q, _, _⟩ | ⟨q, _, _⟩ <;> exact q
theorem Lt.trans {x y z : ByteArray} (h : Lt x y) (k : Lt y z) : Lt x z := bl_trans h k
theorem Lt.irr (x : ByteArray) : ¬ Lt x x := by unfold Lt; rw [bl_irr]; simp
theorem Lt.asymm {x y : ByteArray} (h : Lt x y) : ¬ Lt y x := fun k => Lt.irr x (h.trans k)
theorem Lt.tri (x y : ByteArray) : Lt x y ∨ x = y ∨ Lt y x := by
  rcases bl_cases x.toList y.toList with ⟨q, _, _⟩ | ⟨_, q, _⟩ | ⟨_, _, q⟩
  · exact .inl q
  · exact .inr (.inr q)
  · exact .inr (.inl (tl_inj q))
theorem bl_app (p : List UInt8) : ∀ x y : List UInt8, Op.bytesLess (p ++ x) (p ++ y) = Op.bytesLess x y := by
  induction p with
  | nil => intro x y; rfl
  | cons a p ih =>
    intro x y
    show (decide (a < a) || (a == a && Op.bytesLess (p ++ x) (p ++ y))) = _
    have : ¬ a < a := by rw [UInt8.lt_iff_toNat_lt]; omega
    rw [decide_eq_false this, ih]
    simp
/-! ### An entry, by its bytes -/
def cut (c : UInt8) : List UInt8 → List UInt8 × Bool
  | [] => ([], false)
  | b :: u => if b = c then ([b], true) else (b :: (cut c u).1, (cut c u).2)
theorem cut_eq (c : UInt8) : ∀ u, cut c u = if 0 ≤ Lib.indexByte u c then (u.take (Lib.indexByte u c + 1).toNat, true) else (u, false)
  | [] => rfl
  | b :: u => by
    have ih := cut_eq c u
    have hge := Lib.indexByte_ge u c
    unfold cut
    rw [indexByte_up]
    by_cases e : b = c
    · rw [if_pos e, if_pos e, if_pos (by omega)]
      rfl
    · rw [if_neg e, if_neg e, ih]
      by_cases e1 : Lib.indexByte u c = -1
      · rw [e1, if_neg (by omega), if_pos rfl, if_neg (by omega)]
      · rw [if_neg e1, if_pos (by omega), if_pos (by omega)]
        have : (Lib.indexByte u c + 1 + 1).toNat = (Lib.indexByte u c + 1).toNat + 1 := by omega
        rw [this]
        rfl
theorem cut_mono (c : UInt8) : ∀ u v : List UInt8, Op.bytesLess u v = true → cut c u = cut c v ∨ Op.bytesLess (cut c u).1 (cut c v).1 = true
  | u, [], h => by cases u <;> simp [Op.bytesLess] at h
  | [], b :: v, _ => by
    right
    unfold cut
    split <;> rfl
  | a :: u, b :: v, h => by
    unfold Op.bytesLess at h
    rw [Bool.or_eq_true, Bool.and_eq_true, decide_eq_true_eq, beq_iff_eq] at h
    rcases h with h | ⟨rfl, h⟩
    · right
      have hu : ∃ x, (cut c (a :: u)).1 = a :: x := by unfold cut; split <;> exact ⟨_, rfl⟩
      have hv : ∃ x, (cut c (b :: v)).1 = b :: x := by unfold cut; split <;> exact ⟨_, rfl⟩
      obtain ⟨x, hx⟩ := hu
      obtain ⟨y, hy⟩ := hv
      rw [hx, hy]
      unfold Op.bytesLess
      rw [decide_eq_true h]
      rfl
    · have ih := cut_mono c u v h
      unfold cut
      by_cases e : a = c
      · rw [if_pos e, if_pos e]
        exact .inl rfl
      · rw [if_neg e, if_neg e]
        rcases ih with ih | ih
        · rw [ih]
          exact .inl rfl
        · right
          exact (bl_app [a] _ _).trans ih
theorem begB_split {s p : ByteArray} (h : begB s p = true) : s.toList = p.toList ++ s.toList.drop p.size := by
  unfold begB at h
  rw [Bool.and_eq_true, decide_eq_true_eq, beq_iff_eq, Lib.extract_toList, ← Lib.toList_data] at h
  have h2 : s.toList.take p.size = p.toList := by simpa using h.2
  rw [← h2, List.take_append_drop]
def entL (p : List UInt8) (d u : List UInt8) : List UInt8 × Bool := match d with
  | [] => (p ++ u, false)
  | c :: _ => (p ++ (cut c u).1, (cut c u).2)
theorem entOf_list {s p d : ByteArray} (hd : d.size ≤ 1) (h : begB s p = true) : (entOf s d p.size).1.toList = (entL p.toList d.toList (s.toList.drop p.size)).1 ∧ (entOf s d p.size).2 = (entL p.toList d.toList (s.toList.drop p.size)).2 := by
  have hs := begB_split h
  have hp := begB_size h
  unfold entOf
  by_cases e0 : d.toList = []
  · rw [if_pos e0, e0]
    exact ⟨hs, rfl⟩
  · have hd1 : d.size = 1 := by
      have : d.toList.length ≠ 0 := by intro h; exact e0 (List.eq_nil_of_length_eq_zero h)
      rw [tl_length] at this
      omega
    rw [if_neg e0, delim_one hd1]
    generalize (bt d 0).toNat.toUInt8 = c
    show _ = (p.toList ++ (cut c _).1) ∧ _ = (cut c _).2
    rw [cut_eq]
    by_cases hj : 0 ≤ Lib.indexByte (s.toList.drop p.size) c
    · rw [if_pos hj, if_pos hj]
      refine ⟨?_, rfl⟩
      show (s.extract 0 _).toList = _
      rw [Lib.extract_toList, ← Lib.toList_data, List.drop_zero, Nat.sub_zero]
      have e : ((p.size : Int) + Lib.indexByte (s.toList.drop p.size) c + 1).toNat = p.toList.length + (Lib.indexByte (s.toList.drop p.size) c + 1).toNat := by rw [tl_length]; omega
      rw [e]
      generalize Lib.indexByte (s.toList.drop p.size) c = j
      conv => lhs; rw [hs]
      rw [List.take_length_add_append]
    · rw [if_neg hj, if_neg hj]
      exact ⟨hs, rfl⟩
theorem ent_mono {s t p d : ByteArray} (hd : d.size ≤ 1) (hs : begB s p = true) (ht : begB t p = true) (h : Lt s t) : entOf s d p.size = entOf t d p.size ∨ Lt (entOf s d p.size).1 (entOf t d p.size).1 := by
  obtain ⟨a1, a2⟩ := entOf_list hd hs
  obtain ⟨b1, b2⟩ := entOf_list hd ht
  have hl : Op.bytesLess (s.toList.drop p.size) (t.toList.drop p.size) = true := by
    have := h
    unfold Lt at this
    rw [begB_split hs, begB_split ht, bl_app] at this
    exact this
  unfold Lt
  rw [a1, b1]
  have hc : entL p.toList d.toList (s.toList.drop p.size) = entL p.toList d.toList (t.toList.drop p.size) ∨ Op.bytesLess (entL p.toList d.toList (s.toList.drop p.size)).1 (entL p.toList d.toList (t.toList.drop p.size)).1 = true := by
    cases d.toList with
    | nil => exact .inr ((bl_app _ _ _).trans hl)
    | cons c r =>
      rcases cut_mono c _ _ hl with e | e
      · left
        show (p.toList ++ (cut c _).1, (cut c _).2) = (p.toList ++ (cut c _).1, (cut c _).2)
        rw [e]
      · exact .inr ((bl_app _ _ _).trans e)
  rcases hc with e | e
  · left
    rw [← e] at b1 b2
    exact Prod.ext (tl_inj (a1.trans b1.symm)) (a2.trans b2.symm)
  · exact .inr e
/-! ### The entries as a list without repeats -/
def raw (p d : ByteArray) (l : List ByteArray) : List (ByteArray × Bool) := (l.filter (fun s => begB s p)).map (fun s => entOf s d p.size)
def over (a : ByteArray) (e : ByteArray × Bool) : Bool := Op.bytesLess a.toList e.1.toList
def dd (last : ByteArray × Bool) : List (ByteArray × Bool) → List (ByteArray × Bool)
  | [] => []
  | x :: l => if lpSame x.1 last.1 x.2 last.2 = true then dd last l else x :: dd x l
theorem same_iff (x y : ByteArray × Bool) : lpSame x.1 y.1 x.2 y.2 = true ↔ x = y := by
  unfold lpSame
  rw [Bool.and_eq_true, beq_iff_eq, beq_iff_eq]
  constructor
  · rintro ⟨h1, h2⟩
    exact Prod.ext (tl_inj h1) h2
  · rintro rfl
    exact ⟨rfl, rfl⟩
theorem ents_dd (p d a : ByteArray) : ∀ (l : List ByteArray) (last : ByteArray × Bool), ents p d a l last = dd last ((raw p d l).filter (over a))
  | [], _ => rfl
  | s :: l, last => by
    have ih := ents_dd p d a l
    unfold ents raw
    cases hb : begB s p with
    | false =>
      rw [if_neg (by simp), List.filter_cons_of_neg (by simp [hb])]
      exact ih last
    | true =>
      rw [if_pos rfl, List.filter_cons_of_pos (by simp [hb]), List.map_cons]
      cases ho : Op.bytesLess a.toList (entOf s d p.size).1.toList with
      | false =>
        rw [if_neg (by simp), List.filter_cons_of_neg (by simp [over, ho])]
        exact ih last
      | true =>
        rw [if_pos rfl, List.filter_cons_of_pos (by simp [over, ho])]
        unfold dd
        by_cases hq : lpSame (entOf s d p.size).1 last.1 (entOf s d p.size).2 last.2 = true
        · rw [if_pos hq, if_pos hq]
          exact ih last
        · rw [if_neg hq, if_neg hq, ih]
          rfl
def Asc (l : List ByteArray) : Prop := l.Pairwise Lt
def Mono (l : List (ByteArray × Bool)) : Prop := l.Pairwise (fun x y => x = y ∨ Lt x.1 y.1)
def Rise (l : List (ByteArray × Bool)) : Prop := l.Pairwise (fun x y => Lt x.1 y.1)
theorem raw_mono {p d : ByteArray} (hd : d.size ≤ 1) {l : List ByteArray} (h : Asc l) : Mono (raw p d l) := by
  unfold Mono raw
  rw [List.pairwise_map]
  have h1 : (l.filter (fun s => begB s p)).Pairwise (fun s t => begB s p = true ∧ begB t p = true ∧ Lt s t) := by
    refine List.Pairwise.imp_of_mem ?_ (List.Pairwise.filter (fun s => begB s p) h)
    intro s t hs ht hl
    exact ⟨(List.mem_filter.1 hs).2, (List.mem_filter.1 ht).2, hl⟩
  exact h1.imp (fun ⟨a, b, c⟩ => ent_mono hd a b c)
theorem dd_sub (last : ByteArray × Bool) : ∀ l x, x ∈ dd last l → x ∈ l ∧ True := by
  intro l
  induction l generalizing last with
  | nil => intro x h; simp [dd] at h
  | cons y l ih =>
    intro x h
    unfold dd at h
    split at h
    · exact ⟨List.mem_cons_of_mem _ (ih last x h).1, trivial⟩
    · rcases List.mem_cons.1 h with rfl | h
      · exact ⟨List.mem_cons_self, trivial⟩
      · exact ⟨List.mem_cons_of_mem _ (ih y x h).1, trivial⟩
theorem dd_rise : ∀ (l : List (ByteArray × Bool)) (last : ByteArray × Bool), Mono l → (∀ x ∈ l, x = last ∨ Lt last.1 x.1) → Rise (dd last l) ∧ ∀ x ∈ dd last l, Lt last.1 x.1
  | [], _, _, _ => ⟨List.Pairwise.nil, fun x h => by simp [dd] at h⟩
  | y :: l, last, hm, hl => by
    unfold Mono at hm
    rw [List.pairwise_cons] at hm
    unfold dd
    by_cases hq : lpSame y.1 last.1 y.2 last.2 = true
    · rw [if_pos hq]
      exact dd_rise l last hm.2 (fun x hx => hl x (List.mem_cons_of_mem _ hx))
    · rw [if_neg hq]
      have hne : y ≠ last := fun e => hq ((same_iff _ _).2 e)
      have hy : Lt last.1 y.1 := (hl y List.mem_cons_self).resolve_left hne
      obtain ⟨h1, h2⟩ := dd_rise l y hm.2 (fun x hx => (hm.1 x hx).imp Eq.symm id)
      refine ⟨List.pairwise_cons.2 ⟨h2, h1⟩, fun x hx => ?_⟩
      rcases List.mem_cons.1 hx with rfl | hx
      · exact hy
      · exact hy.trans (h2 x hx)
theorem dd_last (m : List (ByteArray × Bool)) (u v : ByteArray × Bool) (h : ∀ x ∈ m, x ≠ u ∧ x ≠ v) : dd u m = dd v m := by
  cases m with
  | nil => rfl
  | cons x m =>
    have := h x List.mem_cons_self
    unfold dd
    rw [if_neg (fun e => this.1 ((same_iff _ _).1 e)), if_neg (fun e => this.2 ((same_iff _ _).1 e))]
theorem dd_filter (a : ByteArray) : ∀ (l : List (ByteArray × Bool)) (last : ByteArray × Bool), Mono l → over a last = false → (dd last l).filter (over a) = dd last (l.filter (over a))
  | [], _, _, _ => rfl
  | y :: l, last, hm, ho => by
    have hm' := hm
    unfold Mono at hm'
    rw [List.pairwise_cons] at hm'
    cases hy : over a y with
    | false =>
      rw [List.filter_cons_of_neg (by simp [hy])]
      have hdd : dd last (y :: l) = if lpSame y.1 last.1 y.2 last.2 = true then dd last l else y :: dd y l := rfl
      rw [hdd]
      split
      · exact dd_filter a l last hm'.2 ho
      · rw [List.filter_cons_of_neg (by simp [hy]), dd_filter a l y hm'.2 hy]
        refine dd_last _ _ _ (fun x hx => ?_)
        have := (List.mem_filter.1 hx).2
        exact ⟨fun e => by rw [e, hy] at this; simp at this, fun e => by rw [e, ho] at this; simp at this⟩
    | true =>
      have hall : ∀ x ∈ y :: l, over a x = true := by
        intro x hx
        rcases List.mem_cons.1 hx with rfl | hx
        · exact hy
        · rcases hm'.1 x hx with rfl | h
          · exact hy
          · exact bl_trans hy h
      rw [List.filter_eq_self.2 hall]
      exact List.filter_eq_self.2 (fun x hx => hall x (dd_sub last _ x hx).1)
def whole (p d : ByteArray) (l : List ByteArray) : List (ByteArray × Bool) := ents p d ⟨#[]⟩ l (⟨#[]⟩, false)
theorem nil_least (x : List UInt8) : Op.bytesLess x [] = false := by cases x <;> rfl
theorem empty_list : (⟨#[]⟩ : ByteArray).toList = [] := by rw [Lib.toList_data]
theorem over_empty {a : ByteArray} {e : ByteArray × Bool} (h : over a e = true) : over ⟨#[]⟩ e = true := by
  unfold over at h ⊢
  rw [empty_list]
  cases he : e.1.toList with
  | nil => rw [he, nil_least] at h; cases h
  | cons _ _ => rfl
theorem ents_after {p d : ByteArray} (hd : d.size ≤ 1) {l : List ByteArray} (hl : Asc l) (a : ByteArray) : ents p d a l (a, false) = (whole p d l).filter (over a) := by
  unfold whole
  rw [ents_dd, ents_dd]
  have hm := raw_mono (p := p) hd hl
  have hm2 : Mono ((raw p d l).filter (over ⟨#[]⟩)) := List.Pairwise.filter _ hm
  rw [dd_filter a _ _ hm2 (by unfold over; rw [empty_list]; exact nil_least _), List.filter_filter]
  have e : (raw p d l).filter (fun x => over a x && over ⟨#[]⟩ x) = (raw p d l).filter (over a) := by
    refine List.filter_congr (fun x _ => ?_)
    cases h : over a x with
    | false => rfl
    | true => rw [over_empty h]; rfl
  rw [e]
  refine dd_last _ _ _ (fun x hx => ?_)
  have ho := (List.mem_filter.1 hx).2
  constructor
  · rintro rfl
    unfold over at ho
    rw [bl_irr] at ho
    cases ho
  · rintro rfl
    unfold over at ho
    rw [empty_list, nil_least] at ho
    cases ho
theorem whole_rise {p d : ByteArray} (hd : d.size ≤ 1) {l : List ByteArray} (hl : Asc l) : Rise (whole p d l) ∧ ∀ x ∈ whole p d l, Lt ⟨#[]⟩ x.1 := by
  unfold whole
  rw [ents_dd]
  exact dd_rise _ _ (List.Pairwise.filter _ (raw_mono hd hl)) (fun x hx => .inr (List.mem_filter.1 hx).2)
/-- What comes behind the i-th entry. -/
theorem behind {es : List (ByteArray × Bool)} (h : Rise es) (i : Nat) (hi : i < es.length) : es.filter (over es[i].1) = es.drop (i + 1) := by
  have e : es = es.take (i + 1) ++ es.drop (i + 1) := (List.take_append_drop _ _).symm
  have h1 : ∀ x ∈ es.take (i + 1), over es[i].1 x = false := by
    intro x hx
    obtain ⟨j, hj, rfl⟩ := List.mem_iff_getElem.1 hx
    rw [List.length_take] at hj
    rw [List.getElem_take]
    unfold over
    by_cases e : j = i
    · subst e; exact bl_irr _
    · have := List.pairwise_iff_getElem.1 h j i (by omega) hi (by omega)
      rcases bl_cases es[i].1.toList es[j].1.toList with ⟨_, q, _⟩ | ⟨q, _, _⟩ | ⟨q, _, _⟩
      · unfold Lt at this; rw [q] at this; cases this
      · exact q
      · exact q
  have h2 : ∀ x ∈ es.drop (i + 1), over es[i].1 x = true := by
    intro x hx
    obtain ⟨j, hj, rfl⟩ := List.mem_iff_getElem.1 hx
    rw [List.length_drop] at hj
    rw [List.getElem_drop]
    exact List.pairwise_iff_getElem.1 h i (i + 1 + j) hi (by omega) (by omega)
  generalize es[i].fst = a at h1 h2 ⊢
  conv => lhs; rw [e]
  rw [List.filter_append, List.filter_eq_nil_iff.2 (fun x hx => by rw [h1 x hx]; simp), List.filter_eq_self.2 h2, List.nil_append]
/-! ### sorted -/
theorem srt_at (x : ByteArray) : ∀ (l : List ByteArray), Asc l → (∀ y ∈ l.take (srtPos x l), Lt y x) ∧ (∀ y ∈ l.drop (srtPos x l), ¬ Lt y x)
  | [], _ => ⟨fun y h => by simp [srtPos] at h, fun y h => by simp [srtPos] at h⟩
  | z :: l, h => by
    unfold Asc at h
    rw [List.pairwise_cons] at h
    have ih := srt_at x l h.2
    unfold srtPos
    cases hz : Op.bytesLess z.toList x.toList with
    | true =>
      rw [if_pos rfl]
      refine ⟨fun y hy => ?_, fun y hy => ih.2 y (by simpa using hy)⟩
      rw [List.take_succ_cons, List.mem_cons] at hy
      rcases hy with rfl | hy
      · exact hz
      · exact ih.1 y hy
    | false =>
      rw [if_neg (by simp)]
      refine ⟨fun y hy => by simp at hy, fun y hy => ?_⟩
      rw [List.drop_zero, List.mem_cons] at hy
      rcases hy with rfl | hy
      · unfold Lt; rw [hz]; simp
      · intro hyx
        have h2 : Lt z x := (h.1 y hy).trans hyx
        unfold Lt at h2
        rw [hz] at h2
        cases h2
theorem srtIns_asc {out : List ByteArray} (h : Asc out) (x : ByteArray) : Asc (srtIns out x) := by
  unfold srtIns
  obtain ⟨h1, h2⟩ := srt_at x out h
  have hle := srtPos_le x out
  split
  · exact h
  · rename_i hn
    have h3 : ∀ y ∈ out.drop (srtPos x out), Lt x y := by
      intro y hy
      have hlt : srtPos x out < out.length := by
        rcases Nat.lt_or_ge (srtPos x out) out.length with h | h
        · exact h
        · rw [List.drop_eq_nil_of_le h] at hy; simp at hy
      have hd := drop_rd out (srtPos x out) hlt
      have hne : rdOf ByteArray.empty out (srtPos x out : Int) ≠ x := fun e => hn ⟨hlt, by rw [e]⟩
      have h0 : Lt x (rdOf ByteArray.empty out (srtPos x out : Int)) := by
        rcases Lt.tri x (rdOf ByteArray.empty out (srtPos x out : Int)) with q | q | q
        · exact q
        · exact absurd q.symm hne
        · exact absurd q (h2 _ (by rw [hd]; exact List.mem_cons_self))
      rw [hd, List.mem_cons] at hy
      rcases hy with rfl | hy
      · exact h0
      · refine h0.trans ?_
        have hp : Asc (out.drop (srtPos x out)) := List.Pairwise.sublist (List.drop_sublist _ _) h
        rw [hd] at hp
        exact (List.pairwise_cons.1 hp).1 y hy
    have hpair : Asc (out.take (srtPos x out) ++ out.drop (srtPos x out)) := by rw [List.take_append_drop]; exact h
    unfold Asc at hpair ⊢
    rw [List.pairwise_append] at hpair
    rw [List.append_assoc, List.pairwise_append]
    refine ⟨hpair.1, ?_, ?_⟩
    · show List.Pairwise Lt (x :: out.drop (srtPos x out))
      exact List.pairwise_cons.2 ⟨h3, hpair.2.1⟩
    · intro a ha b hb
      rcases List.mem_cons.1 (show b ∈ x :: out.drop (srtPos x out) from hb) with rfl | hb
      · exact h1 a ha
      · exact hpair.2.2 a ha b hb
theorem srt_asc (l : List ByteArray) : Asc (srt l) := by
  have : ∀ (l a : List ByteArray), Asc a → Asc (l.foldl srtIns a) := by
    intro l
    induction l with
    | nil => intro a h; exact h
    | cons x l ih => intro a h; exact ih _ (srtIns_asc h x)
  exact this l [] List.Pairwise.nil
theorem srtIns_mem {out : List ByteArray} {x y : ByteArray} (h : y ∈ srtIns out x) : y ∈ out ∨ y = x := by
  unfold srtIns at h
  split at h
  · exact .inl h
  · rw [List.mem_append, List.mem_append, List.mem_singleton] at h
    rcases h with (h | h) | h
    · exact .inl (List.mem_of_mem_take h)
    · exact .inr h
    · exact .inl (List.mem_of_mem_drop h)
theorem srt_mem {l : List ByteArray} {y : ByteArray} (h : y ∈ srt l) : y ∈ l := by
  have : ∀ (l a : List ByteArray), y ∈ l.foldl srtIns a → y ∈ l ∨ y ∈ a := by
    intro l
    induction l with
    | nil => intro a h; exact .inr h
    | cons x l ih =>
      intro a h
      rcases ih _ h with h | h
      · exact .inl (List.mem_cons_of_mem _ h)
      · rcases srtIns_mem h with h | rfl
        · exact .inr h
        · exact .inl List.mem_cons_self
  rcases this l [] h with h | h
  · exact h
  · simp at h
theorem asc_lpAsc : ∀ {l : List ByteArray}, Asc l → lpAsc l = true
  | [], _ => rfl
  | [_], _ => rfl
  | a :: b :: l, h => by
    unfold Asc at h
    rw [List.pairwise_cons] at h
    unfold lpAsc
    rw [asc_lpAsc h.2, Bool.and_true]
    exact h.1 b List.mem_cons_self
end Go.Proofs.Ytbhmffbpbicilaa.Pure
