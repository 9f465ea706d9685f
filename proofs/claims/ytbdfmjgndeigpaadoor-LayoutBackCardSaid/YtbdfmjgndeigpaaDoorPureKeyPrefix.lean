import Derived.Test.YtbdfmjgndeigpaaDoorPureKeyOrder
namespace Go.Proofs.YtbdfmjgndeigpaaDoor.Pure
open Go.RowKit Go.Proofs.YtbdfmjgndeigpaaDoor.P Go.Proofs.YtbdfmjgndeigpaaDoorW.PrintWords Go.Proofs.YtbdfmjgndeigpaaDoorW.PrintLast Go.Proofs.YtbdfmjgndeigpaaDoorW.PrintMore
/-! ### Parts are told by their bytes -/
def goodT (x : ByteArray) : Prop := ∀ c ∈ bytesOf x, 0 < c ∧ c < 255
def goodP (p : S91) : Prop := (∃ x, p = textP x ∧ goodT x) ∨ (∃ n, p = ⟨2, n, ⟨#[]⟩⟩ ∧ goodN n) ∨ ∃ n, p = ⟨3, n, ⟨#[]⟩⟩ ∧ goodN n
theorem bytesOf_inj {x y : ByteArray} (h : bytesOf x = bytesOf y) : x = y := by
  unfold bytesOf at h
  have e : x.data.toList = y.data.toList := by
    refine List.map_inj_right (f := fun b : UInt8 => (b.toNat : Int)) (fun a b h => ?_) |>.1 h
    exact UInt8.toNat_inj.1 (by omega)
  obtain ⟨⟨l⟩⟩ := x
  obtain ⟨⟨m⟩⟩ := y
  have : l = m := e
  rw [this]
theorem text_prefix : ∀ (x y A B : List Int), (∀ c ∈ x, 0 < c ∧ c < 255) → (∀ c ∈ y, 0 < c ∧ c < 255) → (x ++ 0 :: 1 :: A) <+: (y ++ 0 :: 1 :: B) → x = y ∧ A <+: B
  | [], [], A, B, _, _, h => by
    simp only [List.nil_append, List.cons_prefix_cons] at h
    exact ⟨rfl, h.2.2⟩
  | [], b :: y, A, B, _, hy, h => by
    simp only [List.nil_append, List.cons_append, List.cons_prefix_cons] at h
    have := hy b (by simp)
    omega
  | a :: x, [], A, B, hx, _, h => by
    simp only [List.nil_append, List.cons_append, List.cons_prefix_cons] at h
    have := hx a (by simp)
    omega
  | a :: x, b :: y, A, B, hx, hy, h => by
    simp only [List.cons_append, List.cons_prefix_cons] at h
    obtain ⟨e, h2⟩ := text_prefix x y A B (fun c hc => hx c (by simp [hc])) (fun c hc => hy c (by simp [hc])) h.2
    exact ⟨by rw [h.1, e], h2⟩
theorem same_prefix {x y A B : List Int} (hl : x.length = y.length) (h : (x ++ A) <+: (y ++ B)) : x = y ∧ A <+: B := by
  obtain ⟨r, e⟩ := h
  rw [List.append_assoc] at e
  obtain ⟨e1, e2⟩ := List.append_inj e hl
  exact ⟨e1, r, e2⟩
theorem partB_t {x : ByteArray} (h : goodT x) : partB (textP x) = 2 :: (bytesOf x ++ [0, 1]) := partB_text h
theorem partB_up (n : Int) : partB ⟨2, n, ⟨#[]⟩⟩ = 3 :: num8 (unum n) 0 := rfl
theorem partB_down (n : Int) : partB ⟨3, n, ⟨#[]⟩⟩ = 4 :: num8 (unum n) 255 := rfl
theorem part_cancel {p q : S91} (hp : goodP p) (hq : goodP q) {A B : List Int} (h : (partB p ++ A) <+: (partB q ++ B)) : p = q ∧ A <+: B := by
  rcases hp with ⟨x, rfl, hx⟩ | ⟨n, rfl, hn⟩ | ⟨n, rfl, hn⟩ <;> rcases hq with ⟨y, rfl, hy⟩ | ⟨m, rfl, hm⟩ | ⟨m, rfl, hm⟩
  all_goals (first | (conv at h => lhs; rw [partB_t hx]) | (conv at h => lhs; rw [partB_up]) | (conv at h => lhs; rw [partB_down]))
  all_goals (first | (conv at h => rhs; rw [partB_t hy]) | (conv at h => rhs; rw [partB_up]) | (conv at h => rhs; rw [partB_down]))
  all_goals simp only [List.cons_append, List.cons_prefix_cons] at h
  all_goals (first | exact absurd h.1 (by decide) | skip)
  · have h2 := h.2
    rw [List.append_assoc, List.append_assoc] at h2
    obtain ⟨e, hAB⟩ := text_prefix _ _ _ _ hx hy h2
    exact ⟨by rw [bytesOf_inj e], hAB⟩
  · obtain ⟨e, hAB⟩ := same_prefix (by rfl) h.2
    exact ⟨by rw [num8_inj hn hm (.inl e)], hAB⟩
  · obtain ⟨e, hAB⟩ := same_prefix (by rfl) h.2
    exact ⟨by rw [num8_inj hn hm (.inr e)], hAB⟩
theorem part_head {p : S91} (hp : goodP p) : ∃ c s, partB p = c :: s ∧ 2 ≤ c ∧ c ≤ 4 := by
  rcases hp with ⟨x, rfl, hx⟩ | ⟨n, rfl, hn⟩ | ⟨n, rfl, hn⟩
  · exact ⟨2, _, partB_t hx, by omega, by omega⟩
  · exact ⟨3, _, rfl, by omega, by omega⟩
  · exact ⟨4, _, rfl, by omega, by omega⟩
theorem part_byte {p : S91} (hp : goodP p) : byteL (partB p) := by
  rcases hp with ⟨x, rfl, hx⟩ | ⟨n, rfl, hn⟩ | ⟨n, rfl, hn⟩
  · rw [partB_t hx]
    intro c hc
    rcases List.mem_cons.1 hc with rfl | hc
    · omega
    · rcases List.mem_append.1 hc with hc | hc
      · have := hx c hc
        omega
      · have : c = 0 ∨ c = 1 := by simpa using hc
        omega
  · intro c hc
    rcases List.mem_cons.1 hc with rfl | hc
    · omega
    · exact (num8_byte hn).1 c hc
  · intro c hc
    rcases List.mem_cons.1 hc with rfl | hc
    · omega
    · exact (num8_byte hn).2 c hc
theorem flat_byte : ∀ ps : List S91, (∀ p ∈ ps, goodP p) → byteL (flat ps)
  | [], _ => fun c h => by cases h
  | p :: ps, h => by
    rw [flat_cons, byteL_app]
    exact ⟨part_byte (h p (by simp)), flat_byte ps (fun q hq => h q (by simp [hq]))⟩
theorem flat_prefix : ∀ ps qs : List S91, (∀ p ∈ ps, goodP p) → (∀ q ∈ qs, goodP q) → flat ps <+: flat qs → ps <+: qs
  | [], _, _, _, _ => List.nil_prefix
  | p :: ps, [], hp, _, h => by
    obtain ⟨c, s, e, _⟩ := part_head (hp p (by simp))
    rw [flat_cons, e] at h
    have : flat [] = [] := rfl
    rw [this] at h
    simp at h
  | p :: ps, q :: qs, hp, hq, h => by
    rw [flat_cons, flat_cons] at h
    obtain ⟨e, h2⟩ := part_cancel (hp p (by simp)) (hq q (by simp)) h
    rw [e, List.cons_prefix_cons]
    exact ⟨rfl, flat_prefix ps qs (fun x hx => hp x (by simp [hx])) (fun x hx => hq x (by simp [hx])) h2⟩
theorem flat_between {ps qs : List S91} (hp : ∀ p ∈ ps, goodP p) (hq : ∀ q ∈ qs, goodP q) : (ltI (flat qs) (flat ps) = false ∧ ltI (flat qs) (flat ps ++ [255]) = true) ↔ ps <+: qs := by
  rw [between]
  constructor
  · rintro ⟨r, e, _⟩
    exact flat_prefix ps qs hp hq ⟨r, e.symm⟩
  · rintro ⟨rs, rfl⟩
    refine ⟨flat rs, flat_app ps rs, fun c s e => ?_⟩
    cases rs with
    | nil => cases e
    | cons q rs =>
      obtain ⟨d, t, e2, h1, h2⟩ := part_head (hq q (by simp))
      rw [flat_cons, e2, List.cons_append] at e
      cases e
      omega
/-! ### A key's parts -/
theorem numP_good {a n : Int} (h : goodN n) : goodP (numP a n) := by
  unfold numP
  split
  · exact .inr (.inr ⟨n, rfl, h⟩)
  · exact .inr (.inl ⟨n, rfl, h⟩)
theorem keyParts_good {a : Int} {b c : ByteArray} {l : List Int} (h0 : 1 ≤ a) (h1 : a ≤ 6) (hb : nameOr bOk b) (hc : nameOr oOk c) (hl : ∀ n ∈ l, goodN n) : ∀ p ∈ keyParts a b c l, goodP p := by
  intro p hp
  unfold keyParts at hp
  rcases List.mem_append.1 hp with hp | hp
  · rcases List.mem_cons.1 hp with rfl | hp
    · obtain ⟨x, hx, g0, g1⟩ := letter_bytes h0 h1
      exact .inl ⟨_, rfl, fun c hc => by rw [hx] at hc; have hc : c = x := (by simpa using hc); omega⟩
    · obtain ⟨x, hx, hne, rfl⟩ := mem_textsP hp
      rcases List.mem_cons.1 hx with rfl | hx
      · exact .inl ⟨_, rfl, (bOk' (hb.resolve_left hne)).2⟩
      · obtain rfl : x = c := by simpa using hx
        exact .inl ⟨_, rfl, (oOk' (hc.resolve_left hne)).2⟩
  · obtain ⟨n, hn, rfl⟩ := List.mem_map.1 hp
    exact numP_good (hl n hn)
theorem textP_inj {x y : ByteArray} (h : textP x = textP y) : x = y := by injection h
theorem numP_inj {a n m : Int} (h : numP a n = numP a m) : n = m := by
  unfold numP at h
  split at h <;> injection h
theorem text_num (x : ByteArray) (a n : Int) : textP x ≠ numP a n := by
  intro h
  have := congrArg S91.f0 h
  unfold textP numP at this
  split at this
  · exact absurd (show (1 : Int) = 3 from this) (by decide)
  · exact absurd (show (1 : Int) = 2 from this) (by decide)
theorem map_prefix (a : Int) : ∀ l m : List Int, (l.map (numP a)) <+: (m.map (numP a)) ↔ l <+: m
  | [], m => by simp
  | _ :: _, [] => by simp
  | x :: l, y :: m => by
    rw [List.map_cons, List.map_cons, List.cons_prefix_cons, List.cons_prefix_cons, map_prefix a l m]
    exact ⟨fun h => ⟨numP_inj h.1, h.2⟩, fun h => ⟨by rw [h.1], h.2⟩⟩
def beginsP (a0 : Int) (b0 c0 : ByteArray) (l0 : List Int) (a1 : Int) (b1 c1 : ByteArray) (l1 : List Int) : Prop :=
  a0 = a1 ∧ (b0.toList = [] ∨ b0.toList = b1.toList) ∧ (c0.toList = [] ∨ c0.toList = c1.toList) ∧ l0 <+: l1
instance (a0 : Int) (b0 c0 : ByteArray) (l0 : List Int) (a1 : Int) (b1 c1 : ByteArray) (l1 : List Int) : Decidable (beginsP a0 b0 c0 l0 a1 b1 c1 l1) := by unfold beginsP; infer_instance
theorem tl_inj {x y : ByteArray} (h : x.toList = y.toList) : x = y := by
  rw [Lib.toList_data, Lib.toList_data] at h
  obtain ⟨⟨l⟩⟩ := x
  obtain ⟨⟨m⟩⟩ := y
  have : l = m := h
  rw [this]
theorem texts_cons {x : ByteArray} (h : x.toList ≠ []) (l : List ByteArray) : textsP (x :: l) = textP x :: textsP l := by
  unfold textsP
  rw [List.filter_cons_of_pos (by simpa using h)]
  rfl
theorem texts_nil {x : ByteArray} (h : x.toList = []) (l : List ByteArray) : textsP (x :: l) = textsP l := by
  unfold textsP
  rw [List.filter_cons_of_neg (by rw [h]; decide)]
theorem parts_prefix {a0 a1 : Int} {b0 c0 b1 c1 : ByteArray} {l0 l1 : List Int} (h0 : 1 ≤ a0 ∧ a0 ≤ 6) (h1 : 1 ≤ a1 ∧ a1 ≤ 6) (hbc : b0.toList = [] → c0.toList = []) (hcl : c0.toList = [] → l0 = []) (hb1 : b1.toList ≠ []) (hc1 : a1 = 1 ↔ c1.toList = []) (hl1 : a1 = 1 → l1 = []) (hc0 : a0 = 1 → c0.toList = []) :
    keyParts a0 b0 c0 l0 <+: keyParts a1 b1 c1 l1 ↔ beginsP a0 b0 c0 l0 a1 b1 c1 l1 := by
  unfold keyParts beginsP
  have hlet : textP (letterOf a0) = textP (letterOf a1) ↔ a0 = a1 := by
    constructor
    · intro h
      exact letter_inj h0.1 h0.2 h1.1 h1.2 (by rw [textP_inj h])
    · intro h
      rw [h]
  rw [List.cons_append, List.cons_append, List.cons_prefix_cons, hlet]
  refine and_congr_right (fun ea => ?_)
  subst ea
  by_cases e1 : b0.toList = []
  · have e2 := hbc e1
    have e3 := hcl e2
    subst e3
    rw [texts_nil e1, texts_nil e2]
    exact ⟨fun _ => ⟨.inl e1, .inl e2, List.nil_prefix⟩, fun _ => List.nil_prefix⟩
  · rw [texts_cons e1, texts_cons hb1, List.cons_append, List.cons_append, List.cons_prefix_cons]
    have hbb : textP b0 = textP b1 ↔ b0.toList = b1.toList := ⟨fun h => by rw [textP_inj h], fun h => by rw [tl_inj h]⟩
    rw [hbb]
    by_cases e2 : c0.toList = []
    · have e3 := hcl e2
      subst e3
      rw [texts_nil e2]
      exact ⟨fun h => ⟨.inr h.1, .inl e2, List.nil_prefix⟩, fun h => ⟨h.1.resolve_left e1, List.nil_prefix⟩⟩
    · have hn1 : a0 ≠ 1 := fun h => e2 (hc0 h)
      have hc1' : c1.toList ≠ [] := fun h => hn1 (hc1.2 h)
      rw [texts_cons e2, texts_cons hc1', List.cons_append, List.cons_append, List.cons_prefix_cons]
      have hcc : textP c0 = textP c1 ↔ c0.toList = c1.toList := ⟨fun h => by rw [textP_inj h], fun h => by rw [tl_inj h]⟩
      rw [hcc]
      show _ ∧ _ ∧ (l0.map (numP a0)) <+: (l1.map (numP a0)) ↔ _
      rw [map_prefix]
      exact ⟨fun h => ⟨.inr h.1, .inr h.2.1, h.2.2⟩, fun h => ⟨h.1.resolve_left e1, h.2.1.resolve_left e2, h.2.2⟩⟩
end Go.Proofs.YtbdfmjgndeigpaaDoor.Pure
