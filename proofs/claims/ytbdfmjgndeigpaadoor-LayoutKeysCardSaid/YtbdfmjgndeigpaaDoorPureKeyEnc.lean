import Derived.Test.YtbdfmjgndeigpaaDoorPureKeyNum
namespace Go.Proofs.YtbdfmjgndeigpaaDoor.Pure
open Go.RowKit Go.Proofs.YtbdfmjgndeigpaaDoor.P Go.Proofs.YtbdfmjgndeigpaaDoorW.PrintWords Go.Proofs.YtbdfmjgndeigpaaDoorW.PrintLast Go.Proofs.YtbdfmjgndeigpaaDoorW.PrintMore
/-! ### A key's bytes -/
def flat (ps : List S91) : List Int := (ps.map partB).flatten
theorem flat_cons (p : S91) (ps : List S91) : flat (p :: ps) = partB p ++ flat ps := rfl
theorem flat_app (a b : List S91) : flat (a ++ b) = flat a ++ flat b := by unfold flat; rw [List.map_append, List.flatten_append]
theorem drop_T91 (ps : List S91) (j : Nat) (h : j < ps.length) : ps.drop j = rd_T91 ps (j : Int) :: ps.drop (j + 1) := by
  rw [List.drop_eq_getElem_cons h]
  congr 1
  simp [rd_T91, List.getD_eq_getElem?_getD, h]
theorem mem_T91 (ps : List S91) (j : Nat) (h : j < ps.length) : rd_T91 ps (j : Int) ∈ ps := by
  have : rd_T91 ps (j : Int) = ps[j] := by simp [rd_T91, List.getD_eq_getElem?_getD, h]
  rw [this]
  exact List.getElem_mem h
theorem enc_l1 (ps : List S91) (hn : ps.length ≤ 1000) (hs : ∀ p ∈ ps, p.f2.size ≤ 128) : ∀ (r j : Nat) (b : List Int), ps.length - j = r → j ≤ ps.length → (b ++ flat (ps.drop j)).length ≤ 128 → Ev (fun k => tuple_Encode.l1 k b ps (ps.length : Int) (j : Int)) (strOfNums (b ++ flat (ps.drop j)), 0)
  | r, j, b, hr, hj, hl => by
    by_cases hjl : j < ps.length
    · have hd := drop_T91 ps j hjl
      have hz := hs _ (mem_T91 ps j hjl)
      rw [hd, flat_cons, ← List.append_assoc] at hl ⊢
      have hb : (b ++ partB (rd_T91 ps (j : Int))).length ≤ 128 := by rw [List.length_append] at hl; omega
      have hb0 : b.length ≤ 128 := by rw [List.length_append] at hb; omega
      refine Ev.succ (G := fun k => (tuple_put.f k b (rd_T91 ps (j : Int)).f0 (rd_T91 ps (j : Int)).f1 (rd_T91 ps (j : Int)).f2).bind fun t => if (t.length : Int) > 128 then some ((⟨#[]⟩ : ByteArray), 5) else tuple_Encode.l1 k t ps (ps.length : Int) ((j + 1 : Nat) : Int)) (fun k => ?_) ?_
      · simp only [tuple_Encode.l1]
        rw [if_pos (by omega), if_pos (by omega), if_pos (by omega), if_neg (by omega), wr_one j (by omega)]
      · refine Ev.bind (put_f b _ (by omega) (by omega)) ?_
        refine Ev.congr (fun k => if_neg (by omega)) (enc_l1 ps hn hs (r - 1) (j + 1) _ (by omega) (by omega) hl)
    · have hd : ps.drop j = [] := List.drop_eq_nil_of_le (by omega)
      rw [hd]
      have e : b ++ flat [] = b := by simp [flat]
      rw [e]
      refine Ev.succ (G := fun _ => some (strOfNums b, 0)) (fun k => ?_) (Ev.const _)
      simp only [tuple_Encode.l1]
      rw [if_neg (by omega)]
  termination_by r => r
  decreasing_by omega
theorem enc_l0 (ps : List S91) (hn : ps.length ≤ 1000) (hs : ∀ p ∈ ps, p.f2.size ≤ 128) (hr : ∀ p ∈ ps, tuple_right.f p.f0 p.f1 p.f2 = some true) (hl : (flat ps).length ≤ 128) : ∀ (r j : Nat), ps.length - j = r → j ≤ ps.length → Ev (fun k => tuple_Encode.l0 k ps ps (ps.length : Int) (j : Int)) (strOfNums (flat ps), 0)
  | r, j, hrj, hj => by
    by_cases hjl : j < ps.length
    · refine Ev.succ (fun k => ?_) (enc_l0 ps hn hs hr hl (r - 1) (j + 1) (by omega) (by omega))
      simp only [tuple_Encode.l0]
      rw [if_pos (by omega), if_pos (by omega), if_pos (by omega), hr _ (mem_T91 ps j hjl), Option.bind_some, if_pos rfl, wr_one j (by omega)]
    · have h := enc_l1 ps hn hs _ 0 [] rfl (by omega) (by rw [List.drop_zero, List.nil_append]; exact hl)
      rw [List.drop_zero, List.nil_append] at h
      refine Ev.succ (fun k => ?_) h
      simp only [tuple_Encode.l0]
      rw [if_neg (by omega)]
      rfl
  termination_by r => r
  decreasing_by omega
theorem encode_f (ps : List S91) (hn : ps.length ≤ 1000) (hs : ∀ p ∈ ps, p.f2.size ≤ 128) (hr : ∀ p ∈ ps, tuple_right.f p.f0 p.f1 p.f2 = some true) (hl : (flat ps).length ≤ 128) : Ev (fun k => tuple_Encode.f k ps) (strOfNums (flat ps), 0) := enc_l0 ps hn hs hr hl _ 0 rfl (by omega)
def numP (kd n : Int) : S91 := if kd = 2 then ⟨3, n, ⟨#[]⟩⟩ else ⟨2, n, ⟨#[]⟩⟩
def textP (s : ByteArray) : S91 := ⟨1, 0, s⟩
theorem numP_f (kd n : Int) : layout_number.f kd n = some ((numP kd n).f0, (numP kd n).f1, (numP kd n).f2) := by
  unfold layout_number.f numP
  split <;> rfl
theorem rd_drop (l : List Int) (j : Nat) (h : j < l.length) : l.drop j = rd l (j : Int) :: l.drop (j + 1) := by
  rw [List.drop_eq_getElem_cons h]
  congr 1
  simp [rd, List.getD_eq_getElem?_getD, h]
theorem lay_l1 (kd : Int) (b o : ByteArray) (nums : List Int) (hn : nums.length ≤ 500) (all : List S91) (ha : all.length ≤ 1000) (hs : ∀ p ∈ all, p.f2.size ≤ 128) (hr : ∀ p ∈ all, tuple_right.f p.f0 p.f1 p.f2 = some true) (hl : (flat all).length ≤ 128) : ∀ (r j : Nat) (ps : List S91), nums.length - j = r → j ≤ nums.length → ps ++ (nums.drop j).map (numP kd) = all →
    Ev (fun k => layout_encode.l1 k ps nums (nums.length : Int) (j : Int) kd b o nums) (strOfNums (flat all))
  | r, j, ps, hrj, hj, he => by
    by_cases hjl : j < nums.length
    · rw [rd_drop nums j hjl, List.map_cons] at he
      have hpl : ps.length ≤ 1000 := by
        have := congrArg List.length he
        rw [List.length_append] at this
        omega
      have ih := lay_l1 kd b o nums hn all ha hs hr hl (r - 1) (j + 1) (ps ++ [numP kd (rd nums (j : Int))]) (by omega) (by omega) (by rw [List.append_assoc]; exact he)
      refine Ev.succ (fun k => ?_) ih
      simp only [layout_encode.l1]
      rw [if_pos (by omega), if_pos (by omega), if_pos (by omega), numP_f, Option.bind_some, if_pos (by omega), wr_one j (by omega)]
    · have hd : nums.drop j = [] := List.drop_eq_nil_of_le (by omega)
      rw [hd, List.map_nil, List.append_nil] at he
      subst he
      refine Ev.succ (G := fun k => (tuple_Encode.f k ps).bind fun t => some t.1) (fun k => ?_) (Ev.bind (encode_f ps ha hs hr hl) (Ev.const _))
      simp only [layout_encode.l1]
      rw [if_neg (by omega)]
  termination_by r => r
  decreasing_by omega
def textsP (l : List ByteArray) : List S91 := (l.filter (fun s => !(s.toList == ([] : List UInt8)))).map textP
theorem tl_length (x : ByteArray) : x.toList.length = x.size := by rw [Lib.toList_data]; exact data_length x
theorem drop_rd (l : List ByteArray) (i : Nat) (h : i < l.length) : l.drop i = rdOf ByteArray.empty l (i : Int) :: l.drop (i + 1) := by
  rw [List.drop_eq_getElem_cons h]
  congr 1
  simp [rdOf, List.getD_eq_getElem?_getD, h]
theorem lay_l0 (kd : Int) (b o : ByteArray) (nums : List Int) (hn : nums.length ≤ 500) (texts : List ByteArray) (ht : texts.length ≤ 100) (all : List S91) (ha : all.length ≤ 1000) (hs : ∀ p ∈ all, p.f2.size ≤ 128) (hr : ∀ p ∈ all, tuple_right.f p.f0 p.f1 p.f2 = some true) (hl : (flat all).length ≤ 128) : ∀ (r j : Nat) (ps : List S91), texts.length - j = r → j ≤ texts.length → ps ++ textsP (texts.drop j) ++ nums.map (numP kd) = all →
    Ev (fun k => layout_encode.l0 k ps texts (texts.length : Int) (j : Int) kd b o nums) (strOfNums (flat all))
  | r, j, ps, hrj, hj, he => by
    have hpl : ps.length ≤ 1000 := by
      have := congrArg List.length he
      rw [List.length_append, List.length_append] at this
      omega
    by_cases hjl : j < texts.length
    · rw [drop_rd texts j hjl] at he
      by_cases h0 : (rdOf ByteArray.empty texts (j : Int)).toList = []
      · have e : textsP (rdOf ByteArray.empty texts (j : Int) :: texts.drop (j + 1)) = textsP (texts.drop (j + 1)) := by
          unfold textsP
          rw [List.filter_cons_of_neg (by rw [h0]; decide)]
        rw [e] at he
        refine Ev.succ (fun k => ?_) (lay_l0 kd b o nums hn texts ht all ha hs hr hl (r - 1) (j + 1) ps (by omega) (by omega) he)
        simp only [layout_encode.l0]
        rw [if_pos (by omega), if_pos (by omega), if_pos (by omega), if_pos h0, wr_one j (by omega)]
      · have e : textsP (rdOf ByteArray.empty texts (j : Int) :: texts.drop (j + 1)) = textP (rdOf ByteArray.empty texts (j : Int)) :: textsP (texts.drop (j + 1)) := by
          unfold textsP
          rw [List.filter_cons_of_pos (by simpa using h0)]
          rfl
        rw [e] at he
        refine Ev.succ (fun k => ?_) (lay_l0 kd b o nums hn texts ht all ha hs hr hl (r - 1) (j + 1) (ps ++ [textP (rdOf ByteArray.empty texts (j : Int))]) (by omega) (by omega) (by rw [← he]; simp))
        simp only [layout_encode.l0]
        rw [if_pos (by omega), if_pos (by omega), if_pos (by omega), if_neg h0]
        unfold layout_text.f
        rw [Option.bind_some, if_pos (by omega), wr_one j (by omega)]
        rfl
    · have hd : texts.drop j = [] := List.drop_eq_nil_of_le (by omega)
      rw [hd] at he
      have he' : ps ++ (nums.drop 0).map (numP kd) = all := by rw [← he]; simp [textsP]
      refine Ev.succ (fun k => ?_) (lay_l1 kd b o nums hn all ha hs hr hl _ 0 ps rfl (by omega) he')
      simp only [layout_encode.l0]
      rw [if_neg (by omega)]
      rfl
  termination_by r => r
  decreasing_by all_goals omega
end Go.Proofs.YtbdfmjgndeigpaaDoor.Pure
