import Derived.Test.YtbdfmjgndeigpaaDoorPureKeyLaw
namespace Go.Proofs.YtbdfmjgndeigpaaDoor.Pure
open Go.RowKit Go.Proofs.YtbdfmjgndeigpaaDoor.P Go.Proofs.YtbdfmjgndeigpaaDoorW.PrintWords Go.Proofs.YtbdfmjgndeigpaaDoorW.PrintLast Go.Proofs.YtbdfmjgndeigpaaDoorW.PrintMore
/-! ### A key's parts and bytes -/
def letterOf (a : Int) : ByteArray := (⟨#[98, 111, 99, 117, 112, 113]⟩ : ByteArray).extract (a - 1).toNat a.toNat
def keyParts (a : Int) (b c : ByteArray) (l : List Int) : List S91 := textP (letterOf a) :: textsP [b, c] ++ l.map (numP a)
def keyBytes (a : Int) (b c : ByteArray) (l : List Int) : List Int := flat (keyParts a b c l)
theorem letter_bytes {a : Int} (h0 : 1 ≤ a) (h1 : a ≤ 6) : ∃ x : Int, bytesOf (letterOf a) = [x] ∧ 98 ≤ x ∧ x < 255 := by
  have : a = 1 ∨ a = 2 ∨ a = 3 ∨ a = 4 ∨ a = 5 ∨ a = 6 := by omega
  rcases this with rfl | rfl | rfl | rfl | rfl | rfl
  · exact ⟨98, rfl, by omega, by omega⟩
  · exact ⟨111, rfl, by omega, by omega⟩
  · exact ⟨99, rfl, by omega, by omega⟩
  · exact ⟨117, rfl, by omega, by omega⟩
  · exact ⟨112, rfl, by omega, by omega⟩
  · exact ⟨113, rfl, by omega, by omega⟩
theorem esc_id : ∀ l : List Int, (∀ c ∈ l, 0 < c ∧ c < 255) → esc l = l
  | [], _ => rfl
  | c :: l, h => by
    show (if c = 0 then 0 :: 255 :: esc l else c :: esc l) = c :: l
    have := h c (by simp)
    rw [if_neg (by omega), esc_id l (fun x hx => h x (by simp [hx]))]
theorem partB_text {x : ByteArray} (h : ∀ c ∈ bytesOf x, 0 < c ∧ c < 255) : partB (textP x) = 2 :: bytesOf x ++ [0, 1] := by
  unfold partB textP
  rw [if_neg (show ¬ (1 : Int) = 2 by decide), if_neg (show ¬ (1 : Int) = 3 by decide), esc_id _ h]
theorem partB_num (a n : Int) : (partB (numP a n)).length = 9 := by
  unfold partB numP
  split <;> rfl
theorem numP_size (a n : Int) : (numP a n).f2.size = 0 := by unfold numP; split <;> rfl
theorem nil_toList : (⟨#[]⟩ : ByteArray).toList = [] := by rw [Lib.toList_data]
theorem right_num (a n : Int) : tuple_right.f (numP a n).f0 (numP a n).f1 (numP a n).f2 = some true := by
  unfold numP
  split <;> simp [tuple_right.f]
theorem right_text (x : ByteArray) : tuple_right.f (textP x).f0 (textP x).f1 (textP x).f2 = some true := rfl
/-- A name that is told, or none. -/
def nameOr (p : ByteArray → Bool) (x : ByteArray) : Prop := x.toList = [] ∨ p x = true
theorem mem_textsP {p : S91} {l : List ByteArray} (h : p ∈ textsP l) : ∃ x ∈ l, x.toList ≠ [] ∧ p = textP x := by
  unfold textsP at h
  obtain ⟨x, hx, rfl⟩ := List.mem_map.1 h
  obtain ⟨h1, h2⟩ := List.mem_filter.1 hx
  exact ⟨x, h1, by simpa using h2, rfl⟩
theorem nil_size {x : ByteArray} (h : x.toList = []) : x.size = 0 := by rw [← tl_length, h]; rfl
theorem flat_nums (a : Int) : ∀ l : List Int, (flat (l.map (numP a))).length = 9 * l.length
  | [] => rfl
  | n :: l => by
    rw [List.map_cons, flat_cons, List.length_append, partB_num, flat_nums a l, List.length_cons]
    omega
theorem flat_text {x : ByteArray} (h : ∀ c ∈ bytesOf x, 0 < c ∧ c < 255) : (partB (textP x)).length = x.size + 3 := by
  rw [partB_text h, List.length_append, List.length_cons, bytesOf_length]
  rfl
theorem name_bytes {p : ByteArray → Bool} {n : Nat} (hp : ∀ x, p x = true → x.size ≤ n ∧ ∀ c ∈ bytesOf x, 0 < c ∧ c < 255) {x : ByteArray} (h : nameOr p x) : (flat (textsP [x])).length ≤ n + 3 := by
  unfold textsP
  by_cases h0 : x.toList = []
  · rw [List.filter_cons_of_neg (by rw [h0]; decide)]
    exact Nat.zero_le _
  · rcases h with h | h
    · exact absurd h h0
    · obtain ⟨h1, h2⟩ := hp x h
      rw [List.filter_cons_of_pos (by simpa using h0), List.filter_nil, List.map_cons, List.map_nil, flat_cons]
      show (partB (textP x) ++ []).length ≤ _
      rw [List.append_nil, flat_text h2]
      omega
theorem textsP_two (b c : ByteArray) : textsP [b, c] = textsP [b] ++ textsP [c] := by
  unfold textsP
  rw [show [b, c] = [b] ++ [c] from rfl, List.filter_append, List.map_append]
theorem bOk' {x : ByteArray} (h : bOk x = true) : x.size ≤ 12 ∧ ∀ c ∈ bytesOf x, 0 < c ∧ c < 255 := ⟨(bOk_pos h).1, (bOk_pos h).2.2⟩
theorem oOk' {x : ByteArray} (h : oOk x = true) : x.size ≤ 32 ∧ ∀ c ∈ bytesOf x, 0 < c ∧ c < 255 := ⟨(oOk_pos h).1, (oOk_pos h).2.2⟩
theorem keyBytes_length {a : Int} {b c : ByteArray} {l : List Int} (h0 : 1 ≤ a) (h1 : a ≤ 6) (hb : nameOr bOk b) (hc : nameOr oOk c) (hl : l.length ≤ 3) : (keyBytes a b c l).length ≤ 81 := by
  unfold keyBytes keyParts
  obtain ⟨x, hx, x0, x1⟩ := letter_bytes h0 h1
  have e : (partB (textP (letterOf a))).length = 4 := by
    rw [partB_text (by rw [hx]; intro y hy; have hy : y = x := (by simpa using hy); omega), hx]
    rfl
  rw [List.cons_append, flat_cons, List.length_append, e, flat_app, List.length_append, flat_nums, textsP_two, flat_app, List.length_append]
  have n1 := name_bytes (n := 12) (fun x h => bOk' h) hb
  have n2 := name_bytes (n := 32) (fun x h => oOk' h) hc
  omega
theorem encode_key {a : Int} {b c : ByteArray} {l : List Int} (h0 : 1 ≤ a) (h1 : a ≤ 6) (hb : nameOr bOk b) (hc : nameOr oOk c) (hl : l.length ≤ 3) : Ev (fun k => layout_encode.f k a b c l [b, c]) (strOfNums (keyBytes a b c l)) := by
  have hlen := keyBytes_length h0 h1 hb hc hl
  have hsb : b.size ≤ 128 := by rcases hb with h | h; · rw [nil_size h]; omega
                                · have := bOk_pos h; omega
  have hsc : c.size ≤ 128 := by rcases hc with h | h; · rw [nil_size h]; omega
                                · have := oOk_pos h; omega
  have key := lay_l0 a b c l (by omega) [b, c] (by simp) (keyParts a b c l)
    (by
      unfold keyParts
      have : (textsP [b, c]).length ≤ 2 := by
        unfold textsP
        rw [List.length_map]
        exact List.length_filter_le _ [b, c]
      simp only [List.length_append, List.length_cons, List.length_map]
      omega)
    (by
      intro p hp
      unfold keyParts at hp
      rcases List.mem_append.1 hp with hp | hp
      · rcases List.mem_cons.1 hp with rfl | hp
        · obtain ⟨x, hx, _, _⟩ := letter_bytes h0 h1
          have := bytesOf_length (letterOf a)
          rw [hx] at this
          show (letterOf a).size ≤ 128
          simp at this
          omega
        · obtain ⟨x, hx, _, rfl⟩ := mem_textsP hp
          rcases List.mem_cons.1 hx with rfl | hx
          · exact hsb
          · obtain rfl : x = c := by simpa using hx
            exact hsc
      · obtain ⟨n, _, rfl⟩ := List.mem_map.1 hp
        rw [numP_size]
        omega)
    (by
      intro p hp
      unfold keyParts at hp
      rcases List.mem_append.1 hp with hp | hp
      · rcases List.mem_cons.1 hp with rfl | hp
        · exact right_text _
        · obtain ⟨x, hx, _, rfl⟩ := mem_textsP hp
          exact right_text _
      · obtain ⟨n, _, rfl⟩ := List.mem_map.1 hp
        exact right_num _ _)
    (by unfold keyBytes at hlen; omega) _ 0 [textP (letterOf a)] rfl (by simp) (by unfold keyParts; rw [List.drop_zero]; rfl)
  refine Ev.congr (fun k => ?_) key
  unfold layout_encode.f
  rw [wr_in _ (by omega), if_pos (by omega), if_pos (by omega), if_pos (by omega)]
  rfl
end Go.Proofs.YtbdfmjgndeigpaaDoor.Pure
