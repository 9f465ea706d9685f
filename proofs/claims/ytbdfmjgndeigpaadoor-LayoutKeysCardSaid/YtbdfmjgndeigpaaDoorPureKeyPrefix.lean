import Derived.Test.YtbdfmjgndeigpaaDoorPureKeyOrder
namespace Go.Proofs.YtbdfmjgndeigpaaDoor.Pure
open Go.RowKit Go.Proofs.YtbdfmjgndeigpaaDoor.P Go.Proofs.YtbdfmjgndeigpaaDoorW.PrintWords Go.Proofs.YtbdfmjgndeigpaaDoorW.PrintLast Go.Proofs.YtbdfmjgndeigpaaDoorW.PrintMore
/-! ### Parts are told by their bytes -/
def goodT (x : ByteArray) : Prop := ∀ c ∈ bytesOf x, 0 < c ∧ c < 255
def goodP (p : S91) : Prop := (∃ x, p = textP x ∧ goodT x) ∨ (∃ n, p = ⟨2, n, ⟨#[]⟩⟩ ∧ goodN n) ∨ ∃ n, p = ⟨3, n, ⟨#[]⟩⟩ ∧ goodN n
theorem partB_t {x : ByteArray} (h : goodT x) : partB (textP x) = 2 :: (bytesOf x ++ [0, 1]) := partB_text h
theorem partB_up (n : Int) : partB ⟨2, n, ⟨#[]⟩⟩ = 3 :: num8 (unum n) 0 := rfl
theorem partB_down (n : Int) : partB ⟨3, n, ⟨#[]⟩⟩ = 4 :: num8 (unum n) 255 := rfl
/-! ### A key's parts -/
theorem numP_good {a n : Int} (h : goodN n) : goodP (numP a n) := by
  unfold numP
  split
  · exact .inr (.inr ⟨n, rfl, h⟩)
  · exact .inr (.inl ⟨n, rfl, h⟩)
theorem keyParts_good {a : Int} {b c : ByteArray} {l : List Int} (h0 : 1 ≤ a) (h1 : a ≤ 6) (hb : nameOr bOk b) (hc : nameOr oOk c) (hl : ∀ n ∈ l, goodN n) : ∀ p ∈ keyParts a b c l, goodP p := by
  intro p hp
  unfold keyParts at hp
  rcases List.mem_append.1 hp with hp | hp
  · rcases List.mem_cons.1 hp with rfl | hp
    · obtain ⟨x, hx, g0, g1⟩ := letter_bytes h0 h1
      exact .inl ⟨_, rfl, fun c hc => by rw [hx] at hc; have hc : c = x := (by simpa using hc); omega⟩
    · obtain ⟨x, hx, hne, rfl⟩ := mem_textsP hp
      rcases List.mem_cons.1 hx with rfl | hx
      · exact .inl ⟨_, rfl, (bOk' (hb.resolve_left hne)).2⟩
      · obtain rfl : x = c := by simpa using hx
        exact .inl ⟨_, rfl, (oOk' (hc.resolve_left hne)).2⟩
  · obtain ⟨n, hn, rfl⟩ := List.mem_map.1 hp
    exact numP_good (hl n hn)
def beginsP (a0 : Int) (b0 c0 : ByteArray) (l0 : List Int) (a1 : Int) (b1 c1 : ByteArray) (l1 : List Int) : Prop :=
  a0 = a1 ∧ (b0.toList = [] ∨ b0.toList = b1.toList) ∧ (c0.toList = [] ∨ c0.toList = c1.toList) ∧ l0 <+: l1
instance (a0 : Int) (b0 c0 : ByteArray) (l0 : List Int) (a1 : Int) (b1 c1 : ByteArray) (l1 : List Int) : Decidable (beginsP a0 b0 c0 l0 a1 b1 c1 l1) := by unfold beginsP; infer_instance
theorem texts_cons {x : ByteArray} (h : x.toList ≠ []) (l : List ByteArray) : textsP (x :: l) = textP x :: textsP l := by
  unfold textsP
  rw [List.filter_cons_of_pos (by simpa using h)]
  rfl
theorem texts_nil {x : ByteArray} (h : x.toList = []) (l : List ByteArray) : textsP (x :: l) = textsP l := by
  unfold textsP
  rw [List.filter_cons_of_neg (by rw [h]; decide)]
end Go.Proofs.YtbdfmjgndeigpaaDoor.Pure
