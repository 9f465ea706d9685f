-- by xprint (this session's program over the kit's printer)
import Derived.Test.YtbhmffbpbicilaaPx0
import Derived.Outline
import Derived.WalkSpells
namespace Go.Proofs.Ytbhmffbpbicilaa.P
open Go.RowKit Go.Proofs.YtbhmffbpbicilaaW.PrintWords Go.Proofs.YtbhmffbpbicilaaW.PrintLast Go.Proofs.YtbhmffbpbicilaaW.PrintMore
attribute [local go_sem] max2_int min2_int max_two min_two max_three min_three max_four min_four   -- for this text's walks alone
set_option linter.unusedVariables false
set_option linter.unusedSimpArgs false

/-! ### w20_sorted: by hand: texts, rising, each once -/
def srtPos (x : ByteArray) : List ByteArray → Nat
  | [] => 0
  | y :: l => if Op.bytesLess y.toList x.toList = true then srtPos x l + 1 else 0
def srtIns (out : List ByteArray) (x : ByteArray) : List ByteArray :=
  if srtPos x out < out.length ∧ (rdOf ByteArray.empty out (srtPos x out : Int)).toList = x.toList then out else out.take (srtPos x out) ++ [x] ++ out.drop (srtPos x out)
def srt (l : List ByteArray) : List ByteArray := l.foldl srtIns []
def w20_sorted.f (l0 : List ByteArray) : Option (List ByteArray) := if l0.length < 1000000000 then some (srt l0) else none
theorem srt_snoc (l : List ByteArray) (k : Nat) (h : k < l.length) : srt (l.take (k + 1)) = srtIns (srt (l.take k)) (rdOf ByteArray.empty l (k : Int)) := by
  have e : l.take (k + 1) = l.take k ++ [rdOf ByteArray.empty l (k : Int)] := by
    rw [List.take_add_one, List.getElem?_eq_getElem h]
    simp [rdOf, List.getD_eq_getElem?_getD, h]
  rw [e]
  unfold srt
  rw [List.foldl_append]
  rfl
theorem srtPos_le (x : ByteArray) : ∀ l, srtPos x l ≤ l.length
  | [] => Nat.le_refl _
  | y :: l => by
    have := srtPos_le x l
    unfold srtPos
    rw [List.length_cons]
    split <;> omega
theorem srtIns_len (out : List ByteArray) (x : ByteArray) : (srtIns out x).length ≤ out.length + 1 := by
  unfold srtIns
  split
  · omega
  · have := srtPos_le x out
    simp
    omega
theorem srt_len (l : List ByteArray) : (srt l).length ≤ l.length := by
  have : ∀ (l a : List ByteArray), (l.foldl srtIns a).length ≤ a.length + l.length := by
    intro l
    induction l with
    | nil => intro a; simp
    | cons x l ih =>
      intro a
      have h1 := ih (srtIns a x)
      have h2 := srtIns_len a x
      rw [List.foldl_cons, List.length_cons]
      omega
  have := this l []
  simpa [srt] using this
/-- The place, by what is read. -/
theorem srtPos_at (x : ByteArray) : ∀ (l : List ByteArray) (j : Nat), j ≤ l.length → (∀ t : Nat, t < j → Op.bytesLess (rdOf ByteArray.empty l (t : Int)).toList x.toList = true) → (j < l.length → Op.bytesLess (rdOf ByteArray.empty l (j : Int)).toList x.toList = false) → srtPos x l = j
  | [], j, h, _, _ => by
    have : j = 0 := by simpa using h
    subst this
    rfl
  | y :: l, 0, _, _, h => by
    unfold srtPos
    have : Op.bytesLess y.toList x.toList = false := by simpa [rdOf] using h (by simp)
    rw [this]
    rfl
  | y :: l, j + 1, hj, h1, h2 => by
    have hy : Op.bytesLess y.toList x.toList = true := by simpa [rdOf] using h1 0 (by omega)
    have e : ∀ t : Nat, rdOf ByteArray.empty (y :: l) ((t + 1 : Nat) : Int) = rdOf ByteArray.empty l (t : Int) := by
      intro t
      unfold rdOf
      rw [Int.toNat_natCast, Int.toNat_natCast]
      rfl
    have ih := srtPos_at x l j (by simpa using hj) (fun t ht => by have := h1 (t + 1) (by omega); rwa [e] at this) (fun hl => by have := h2 (by simpa using hl); rwa [e] at this)
    unfold srtPos
    rw [hy, if_pos rfl, ih]
theorem C_at_ {W : World} {A : Option Addr} {n : Nat} {xs : List ByteArray} (h : Kd.C Kd.string W A xs.length xs) (e : xs.length = n) : Kd.C Kd.string W A n xs := e ▸ h
theorem C_drop_ {W : World} {A : Option Addr} {m c : Nat} {xs : List ByteArray} (h : Kd.C Kd.string W A xs.length xs) (hm : m ≤ xs.length) (hc : xs.length ≤ c) : Kd.C Kd.string W (if c = m then A else A.map (·.add m)) (xs.drop m).length (xs.drop m) := by
  have h1 := Kd.C_drop h hm hc
  have e : m * Kd.string.sz = m := Nat.mul_one m
  rwa [e] at h1
theorem bl_le_ : ∀ x y : List UInt8, (Op.bytesLess x y || x == y) = !Op.bytesLess y x
  | [], [] => rfl
  | [], _ :: _ => rfl
  | _ :: _, [] => rfl
  | a :: x, b :: y => by
    have ih := bl_le_ x y
    have e : (a :: x == b :: y) = (a == b && x == y) := rfl
    rw [e]
    unfold Op.bytesLess
    by_cases h1 : a < b
    · have h2 : ¬ b < a := by rw [UInt8.lt_iff_toNat_lt] at h1 ⊢; omega
      have h3 : b ≠ a := by rintro rfl; rw [UInt8.lt_iff_toNat_lt] at h1; omega
      simp [h1, h2, h3]
    · by_cases h2 : b < a
      · have h3 : a ≠ b := by rintro rfl; rw [UInt8.lt_iff_toNat_lt] at h2; omega
        simp [h1, h2, h3]
      · obtain rfl : a = b := by
          rw [UInt8.lt_iff_toNat_lt] at h1 h2
          exact UInt8.toNat_inj.1 (by omega)
        simpa [h1] using ih
def w20_sorted.T9 : Bool × List (List Nat × List Nat) := (true, [([], []), ([], []), ([], []), ([1, 2], [1, 2]), ([0, 3], [0, 3]), ([], []), ([], []), ([5, 6], [5, 6]), ([7], [7]), ([8], [8]), ([4, 9, 4], [4, 9]), ([], []), ([], []), ([11, 12], [11, 12]), ([10, 13, 10], [10, 13]), ([14, 14, 0, 1, 2, 3, 4, 5, 6, 7, 8, 9, 10, 11, 12, 13, 14], [1, 11, 14])])
def w20_sorted.B9 : List Nat := [0, 0, 0, 6, 15, 0, 0, 96, 224, 480, 1023, 0, 0, 6144, 16383, 32767]
theorem w20_sorted.tab9 : rtab .any (opsOf Try.f12 9) = w20_sorted.T9 := by kernel_rfl
theorem w20_sorted.bits9 : waitsOk w20_sorted.T9.2 w20_sorted.B9 = true := by kernel_rfl
set_option maxHeartbeats 8000000 in
set_option maxRecDepth 100000 in
theorem w20_sorted.calls (A0 : Option Addr) (c0 : Nat) (l0 : List ByteArray) (r : List ByteArray) (w : World) (hr0 : Kd.C Kd.string w A0 l0.length l0) (hc0 : l0.length ≤ c0) (h : w20_sorted.f l0 = some r) :
    Calls Try.prog 12 #[.slice A0 l0.length c0] w fun e w' => ∃ v0_ : Value, e = .returned (v0_) ∧ Kd.R Kd.string 9 w' w.heap.size (fun _ => True) v0_ r ∧ Below w.heap.size w w' := by
  unfold w20_sorted.f at h
  by_cases hl : l0.length < 1000000000
  · rw [if_pos hl] at h
    have h := Option.some.inj h
    subst h
    have HR0 := Aside0.mk hr0
    clear hr0
    go_enter Try.func12, Try.ntmps12
    go_wp2
    go_loopw [3, 4] (fun o i wr => ∃ k : Nat, i = .int .i64 k ∧ k ≤ l0.length ∧ ∃ A c, o = .slice A (srt (l0.take k)).length c ∧ Aside0 (Kd.R Kd.string 9 wr w.heap.size (fun _ => True) (.slice A (srt (l0.take k)).length c) (srt (l0.take k))) ∧ Aside0 (Below w.heap.size w wr)) (fun _ i _ => l0.length - (intOf i).toNat)
    case atStart => exact ⟨0, rfl, Nat.zero_le _, none, 0, rfl, ⟨Kd.R_nil _ _ _ _ _⟩, ⟨Below.refl _ _⟩⟩
    case round =>
      obtain ⟨k, rfl, hk, A, c, rfl, HO, HB⟩ := hrel
      by_cases hlt : k < l0.length
      · have hsn := Aside0.mk (srt_snoc l0 k hlt)
        have hol := srt_len (l0.take k)
        rw [List.length_take] at hol
        generalize hout : srt (l0.take k) = out at HO hsn hol
        have hCl := Kd.C_below HR0.out HB.out
        obtain ⟨ad0, hA0, hx0⟩ := Kd.at_string hCl (k : Int) (by omega) (by omega)
        rw [Int.toNat_natCast] at hx0
        generalize hxv : rdOf ByteArray.empty l0 (k : Int) = x at hx0 hsn
        have hCo := (Kd.R_reads' HO.out).2.2
        have hco := (Kd.R_reads' HO.out).2.1
        have HCo := Aside0.mk hCo
        clear hCo hCl hxv
        subst hA0
        obtain ⟨wo, rfl⟩ : ∃ wo : World, wo = wr := ⟨_, rfl⟩
        go_wp2
        go_loopw [5] (fun jv wr => ∃ j m : Nat, jv = .int .i64 j ∧ j ≤ out.length ∧ Aside0 (∀ t : Nat, t < j → Op.bytesLess (rdOf ByteArray.empty out (t : Int)).toList x.toList = true) ∧ wr = wo.drewN m) (fun jv _ => out.length - (intOf jv).toNat)
        case atStart => exact ⟨0, 0, rfl, Nat.zero_le _, ⟨fun t ht => absurd ht (by omega)⟩, rfl⟩
        case round =>
          obtain ⟨j, m, rfl, hj, hlow, rfl⟩ := hrel
          by_cases hjl : j < out.length
          · obtain ⟨ad, hA, hcell⟩ := Kd.at_string HCo.out (j : Int) (by omega) (by omega)
            rw [Int.toNat_natCast] at hcell
            subst hA
            cases hless : Op.bytesLess (rdOf ByteArray.empty out (j : Int)).toList x.toList with
            | true =>
              go_wp2
              go_quiet (fail)
              go_wp2
              go_roundw
              case rel => exact ⟨j + 1, _, rfl, by omega, ⟨fun t ht => by
                by_cases e : t = j
                · subst e; exact hless
                · exact hlow.out t (by omega)⟩, rfl⟩
              case measure => simp [intOf]; omega
            | false =>
              have hpos := Aside0.mk (srtPos_at x out j hj hlow.out (fun _ => hless))
              cases heq : ((rdOf ByteArray.empty out (j : Int)).toList == x.toList) with
              | true =>
                have hnew : srt (l0.take (k + 1)) = out := by
                  rw [hsn.out]
                  unfold srtIns
                  rw [hpos.out, if_pos ⟨hjl, by simpa using heq⟩]
                go_wp2
                go_quiet (fail)
                go_wp2
                obtain ⟨nq1, rfl⟩ : ∃ n_ : Nat, n_ = nq := ⟨_, rfl⟩
                go_quiet (fail)
                go_wp2
                go_roundw
                case rel => exact ⟨k + 1, rfl, by omega, some ad, c, by rw [hnew], ⟨by rw [hnew]; exact Kd.R_drewN HO.out _⟩, ⟨below_step HB.out (pw_below_drewN (Below.refl _ _) _)⟩⟩
                case measure => simp [intOf]; omega
              | false =>
                have hnew : srt (l0.take (k + 1)) = [] ++ out.take j ++ [x] ++ out.drop j := by
                  rw [hsn.out]
                  unfold srtIns
                  rw [hpos.out, if_neg (fun h => by have := h.2; rw [this] at heq; simp at heq), List.nil_append]
                have hnew := Aside0.mk hnew
                go_wp2
                go_quiet (fail)
                go_wp2
                obtain ⟨nq1, rfl⟩ : ∃ n_ : Nat, n_ = nq := ⟨_, rfl⟩
                go_quiet (fail)
                go_wp2
                have hjc : (j ≤ c) = True := eq_true (by omega)
                have hjo : (j ≤ out.length) = True := eq_true (by omega)
                refine start_ (n := 16) (S := fun w' => w'.cell? (ad0.add k) = some (.string x)) (ds := []) #[false, false, false, false, false, false, false, false, false, false, false, false, false, false, false, false] (by kernel_rfl) rfl rfl hx0 (fun hHeld => ?_); refine with_tabW w20_sorted.tab9 w20_sorted.bits9 (fun HT_ HW_ => ?_)
                have hE0 : Below wo.heap.size wo (((wo.drewN m).drewN nq1).drewN nq).drew := below_drew1 (pw_below_drewN (pw_below_drewN (pw_below_drewN (Below.refl _ _) _) _) _)
                have hCo := Kd.C_below HCo.out hE0
                have HB1 := below_step HB.out hE0
                clear HCo HB HO hE0
                generalize (((wo.drewN m).drewN nq1).drewN nq).drew = W0 at hCo HB1 hHeld ⊢
                have hx1 := hHeld
                have hE := Below.refl W0.heap.size W0
                refine pure_ (i := 1) (N := some 45) (v := ?_) (a' := ?_) #[false, true, false, false, false, false, false, false, false, false, false, false, false, false, false, false] rfl rfl (any_of HT_.out (by kernel_rfl)) (fun _ _ _ h => h) (Or.inl ⟨by rfl, ?_⟩) ?_ ?_
                rotate_left
                · intro w'
                  go_simp
                  with_reducible rfl
                rotate_left
                · simp only [Act.put, List.setIfInBounds_toArray, List.set_cons_zero, List.set_cons_succ, i64_w, i32_w]
                  rfl
                refine pure_ (i := 2) (N := some 46) (v := ?_) (a' := ?_) #[false, true, true, false, false, false, false, false, false, false, false, false, false, false, false, false] rfl rfl (any_of HT_.out (by kernel_rfl)) (fun _ _ _ h => h) (Or.inl ⟨by rfl, ?_⟩) ?_ ?_
                rotate_left
                · intro w'
                  go_simp
                  with_reducible rfl
                rotate_left
                · simp only [Act.put, List.setIfInBounds_toArray, List.set_cons_zero, List.set_cons_succ, i64_w, i32_w]
                  rfl
                refine pure_ (i := 3) (N := some 47) (v := ?_) (a' := ?_) #[false, true, true, true, false, false, false, false, false, false, false, false, false, false, false, false] rfl rfl (any_of HT_.out (by kernel_rfl)) (fun _ _ _ h => h) (Or.inl ⟨by rfl, ?_⟩) ?_ ?_
                rotate_left
                · intro w'
                  go_simp
                  with_reducible rfl
                rotate_left
                · simp only [Act.put, List.setIfInBounds_toArray, List.set_cons_zero, List.set_cons_succ, i64_w, i32_w]
                  rfl
                refine pure_ (i := 5) (N := some 49) (v := ?_) (a' := ?_) #[false, true, true, true, false, true, false, false, false, false, false, false, false, false, false, false] rfl rfl (any_of HT_.out (by kernel_rfl)) (fun _ _ _ h => h) (Or.inl ⟨by rfl, ?_⟩) ?_ ?_
                rotate_left
                · intro w'
                  go_simp
                  with_reducible rfl
                rotate_left
                · simp only [Act.put, List.setIfInBounds_toArray, List.set_cons_zero, List.set_cons_succ, i64_w, i32_w]
                  rfl
                refine pure_ (i := 6) (N := some 50) (v := ?_) (a' := ?_) #[false, true, true, true, false, true, true, false, false, false, false, false, false, false, false, false] rfl rfl (any_of HT_.out (by kernel_rfl)) (fun _ _ _ h => h) (Or.inl ⟨by rfl, ?_⟩) ?_ ?_
                rotate_left
                · intro w'
                  go_simp
                  with_reducible rfl
                rotate_left
                · simp only [Act.put, List.setIfInBounds_toArray, List.set_cons_zero, List.set_cons_succ, i64_w, i32_w]
                  rfl
                refine pure_ (i := 7) (N := some 51) (v := ?_) (a' := ?_) #[false, true, true, true, false, true, true, true, false, false, false, false, false, false, false, false] rfl rfl (any_of HT_.out (by kernel_rfl)) (fun _ _ _ h => h) (Or.inl ⟨by rfl, ?_⟩) ?_ ?_
                rotate_left
                · intro w'
                  go_simp
                  with_reducible rfl
                rotate_left
                · simp only [Act.put, List.setIfInBounds_toArray, List.set_cons_zero, List.set_cons_succ, i64_w, i32_w]
                  rfl
                refine take_ (i := 8) (N := some 52) (v := ?_) (a' := ?_) #[false, true, true, true, false, true, true, true, true, false, false, false, false, false, false, false] rfl rfl (take_ofW HT_.out HW_.out (by kernel_rfl)) (fun _ _ _ h => h) (Or.inl ⟨by rfl, ?_⟩) hHeld ?_ ?_
                rotate_left
                · rintro w' s0
                  go_simp
                  with_reducible rfl
                rotate_left
                · simp only [Act.put, List.setIfInBounds_toArray, List.set_cons_zero, List.set_cons_succ, i64_w, i32_w]
                  rfl
                refine pure_ (i := 11) (N := some 55) (v := ?_) (a' := ?_) #[false, true, true, true, false, true, true, true, true, false, false, true, false, false, false, false] rfl rfl (any_of HT_.out (by kernel_rfl)) (fun _ _ _ h => h) (Or.inl ⟨by rfl, ?_⟩) ?_ ?_
                rotate_left
                · intro w'
                  go_simp
                  with_reducible rfl
                rotate_left
                · simp only [Act.put, List.setIfInBounds_toArray, List.set_cons_zero, List.set_cons_succ, i64_w, i32_w]
                  rfl
                refine pure_ (i := 12) (N := some 56) (v := ?_) (a' := ?_) #[false, true, true, true, false, true, true, true, true, false, false, true, true, false, false, false] rfl rfl (any_of HT_.out (by kernel_rfl)) (fun _ _ _ h => h) (Or.inl ⟨by rfl, ?_⟩) ?_ ?_
                rotate_left
                · intro w'
                  go_simp
                  with_reducible rfl
                rotate_left
                · simp only [Act.put, List.setIfInBounds_toArray, List.set_cons_zero, List.set_cons_succ, i64_w, i32_w]
                  rfl
                refine pure_ (i := 13) (N := some 57) (v := ?_) (a' := ?_) #[false, true, true, true, false, true, true, true, true, false, false, true, true, true, false, false] rfl rfl (any_of HT_.out (by kernel_rfl)) (fun _ _ _ h => h) (Or.inl ⟨by rfl, ?_⟩) ?_ ?_
                rotate_left
                · intro w'
                  go_simp
                  with_reducible rfl
                rotate_left
                · simp only [Act.put, List.setIfInBounds_toArray, List.set_cons_zero, List.set_cons_succ, i64_w, i32_w]
                  rfl
                refine two_ (i := 0) (j := 9) (Ni := some 44) (Nj := some 53) #[true, true, true, true, false, true, true, true, true, false, false, true, true, true, false, false] #[false, true, true, true, false, true, true, true, true, true, false, true, true, true, false, false] rfl rfl rfl rfl (two_of HT_.out (by kernel_rfl)) (by decide) (by decide) (fun K hK => ?_) (fun K hK => ?_)
                · refine Kd.R_lit_step Kd.string (w0 := W0) W0.heap.size 9 ?hg (N := 44) ?hd (xs := ([] : List ByteArray)) (inner := []) (ok := fun k_ => k_ = (W0).heap.size) (okp := fun k_ => k_ = (W0).heap.size) ?hr ?hp (fun _ hk => hk) rfl hE (hE.size) (by simp) ?_
                  case hd => rfl
                  case hg => rfl
                  case hr => first | (go_simp; done) | (go_simp; rfl)
                  case hp => exact Reps.none _ _
                  intro v44 W1 hr_ hb_ hg_ hn_
                  have h44 := hr_
                  have z44 : W0.heap.size < W1.heap.size := by obtain ⟨b_, e_, _⟩ := hn_; have h1_ := hr_.1 b_ e_; have h2_ := Kd.R_lt hr_ b_ e_; omega
                  replace hE := hb_
                  clear hr_ hb_ hg_ hn_
                  obtain ⟨A44, c44, e_⟩ := Kd.R_slice h44; subst e_
                  refine hK.out _ _ ((hE.cell (World.block_lt_of_cell? _ _ hx1)).trans hx1) (fun hHeld => ?_)
                  clear hK K
                  refine norm_ (a' := ?_) ?_ ?_
                  rotate_left
                  · show Act.put _ (some 44) _ = _
                    simp only [Act.put, List.setIfInBounds_toArray, List.set_cons_zero, List.set_cons_succ, i64_w, i32_w]
                    rfl
                  refine two_ (i := 4) (j := 9) (Ni := some 48) (Nj := some 53) #[true, true, true, true, true, true, true, true, true, false, false, true, true, true, false, false] #[true, true, true, true, false, true, true, true, true, true, false, true, true, true, false, false] rfl rfl rfl rfl (two_of HT_.out (by kernel_rfl)) (by decide) (by decide) (fun K hK => ?_) (fun K hK => ?_)
                  · refine Kd.R_append_rows_step Kd.string (w0 := W0) W0.heap.size (by rfl) (.tmp 44) (.tmp 47) 22 9 (.string ⟨#[]⟩) 16 rfl Try.underlying22 info9 rfl (by decide) (by omega) _ [] (out.take j) _ _ _ (fun _ => True) (fun _ => False) rfl rfl ?aO ?aR (fun _ _ h => h) (fun _ h => h.elim) (fun _ _ => trivial) hE hE.size ?aL ?_
                    case aO => exact Kd.R_mono h44 (fun _ _ => trivial)
                    case aR => exact C_at_ (Kd.C_below (Kd.C_take hCo hj) hE) (by rw [List.length_take]; omega)
                    case aL => simp; omega
                    intro v48 W2 hr_ hb_ hg_ hn_
                    have h48 := hr_
                    replace hE := hb_
                    clear hr_ hb_ hg_ hn_
                    obtain ⟨A48, c48, e_⟩ := Kd.R_slice h48; subst e_
                    refine hK.out _ _ ((hE.cell (World.block_lt_of_cell? _ _ hx1)).trans hx1) (fun hHeld => ?_)
                    clear hK K
                    refine norm_ (a' := ?_) ?_ ?_
                    rotate_left
                    · show Act.put _ (some 48) _ = _
                      simp only [Act.put, List.setIfInBounds_toArray, List.set_cons_zero, List.set_cons_succ, i64_w, i32_w]
                      rfl
                    refine one_ (i := 9) (N := some 53) #[true, true, true, true, true, true, true, true, true, true, false, true, true, true, false, false] rfl rfl (one_of HT_.out (by kernel_rfl)) (by decide) (fun K hK => ?_)
                    refine Kd.R_lit_step Kd.string (w0 := W0) W0.heap.size 9 ?hg (N := 53) ?hd (xs := [x]) (inner := [.string x]) (ok := fun k_ => k_ = (W2).heap.size) (okp := fun k_ => k_ = (W2).heap.size) ?hr ?hp (fun _ hk => hk) rfl hE (hE.size) (by simp) ?_
                    case hd => rfl
                    case hg => rfl
                    case hr => first | (go_simp; done) | (go_simp; rfl)
                    case hp => exact Kd.reps_scalar _
                    intro v53 W3 hr_ hb_ hg_ hn_
                    replace h48 := Kd.R_grown h48 hg_ (fun _ _ => by simp)
                    have h53 := hr_
                    have z53 : W2.heap.size < W3.heap.size := by obtain ⟨b_, e_, _⟩ := hn_; have h1_ := hr_.1 b_ e_; have h2_ := Kd.R_lt hr_ b_ e_; omega
                    replace hE := hb_
                    clear hr_ hb_ hg_ hn_
                    obtain ⟨A53, c53, e_⟩ := Kd.R_slice h53; subst e_
                    refine hK.out _ _ ((hE.cell (World.block_lt_of_cell? _ _ hx1)).trans hx1) (fun hHeld => ?_)
                    clear hK K
                    refine norm_ (a' := ?_) ?_ ?_
                    rotate_left
                    · show Act.put _ (some 53) _ = _
                      simp only [Act.put, List.setIfInBounds_toArray, List.set_cons_zero, List.set_cons_succ, i64_w, i32_w]
                      rfl
                    refine one_ (i := 10) (N := some 54) #[true, true, true, true, true, true, true, true, true, true, true, true, true, true, false, false] rfl rfl (one_of HT_.out (by kernel_rfl)) (by decide) (fun K hK => ?_)
                    refine Kd.R_append_rows_step Kd.string (w0 := W0) W0.heap.size (by rfl) (.tmp 48) (.tmp 53) 22 9 (.string ⟨#[]⟩) 16 rfl Try.underlying22 info9 rfl (by decide) (by omega) _ ([] ++ out.take j) [x] _ _ _ (fun _ => True) (fun _ => False) rfl rfl ?aO ?aR (fun _ _ h => h) (fun _ h => h.elim) (fun _ _ => trivial) hE hE.size ?aL ?_
                    case aO => exact Kd.R_mono h48 (fun _ _ => trivial)
                    case aR => exact (Kd.R_reads' h53).2.2
                    case aL => simp; omega
                    intro v54 W4 hr_ hb_ hg_ hn_
                    have h54 := hr_
                    replace hE := hb_
                    clear hr_ hb_ hg_ hn_
                    obtain ⟨A54, c54, e_⟩ := Kd.R_slice h54; subst e_
                    refine hK.out _ _ ((hE.cell (World.block_lt_of_cell? _ _ hx1)).trans hx1) (fun hHeld => ?_)
                    clear hK K
                    refine norm_ (a' := ?_) ?_ ?_
                    rotate_left
                    · show Act.put _ (some 54) _ = _
                      simp only [Act.put, List.setIfInBounds_toArray, List.set_cons_zero, List.set_cons_succ, i64_w, i32_w]
                      rfl
                    refine one_ (i := 14) (N := some 58) #[true, true, true, true, true, true, true, true, true, true, true, true, true, true, true, false] rfl rfl (one_of HT_.out (by kernel_rfl)) (by decide) (fun K hK => ?_)
                    refine Kd.R_append_rows_step Kd.string (w0 := W0) W0.heap.size (by rfl) (.tmp 54) (.tmp 57) 22 9 (.string ⟨#[]⟩) 16 rfl Try.underlying22 info9 rfl (by decide) (by omega) _ ([] ++ out.take j ++ [x]) (out.drop j) _ _ _ (fun _ => True) (fun _ => False) rfl rfl ?aO ?aR (fun _ _ h => h) (fun _ h => h.elim) (fun _ _ => trivial) hE hE.size ?aL ?_
                    case aO => exact Kd.R_mono h54 (fun _ _ => trivial)
                    case aR => exact C_at_ (Kd.C_below (C_drop_ hCo hj hco) hE) (by rw [List.length_drop])
                    case aL => simp; omega
                    intro v58 W5 hr_ hb_ hg_ hn_
                    have h58 := hr_
                    replace hE := hb_
                    clear hr_ hb_ hg_ hn_
                    obtain ⟨A58, c58, e_⟩ := Kd.R_slice h58; subst e_
                    refine hK.out _ _ ((hE.cell (World.block_lt_of_cell? _ _ hx1)).trans hx1) (fun hHeld => ?_)
                    clear hK K
                    refine norm_ (a' := ?_) ?_ ?_
                    rotate_left
                    · show Act.put _ (some 58) _ = _
                      simp only [Act.put, List.setIfInBounds_toArray, List.set_cons_zero, List.set_cons_succ, i64_w, i32_w]
                      rfl
                    refine pure_ (i := 15) (N := some 3) (v := ?_) (a' := ?_) #[true, true, true, true, true, true, true, true, true, true, true, true, true, true, true, true] rfl rfl (any_of HT_.out (by kernel_rfl)) (fun _ _ _ h => h) (Or.inl ⟨by rfl, ?_⟩) ?_ ?_
                    rotate_left
                    · intro w'
                      go_simp
                      with_reducible rfl
                    rotate_left
                    · simp only [Act.put, List.setIfInBounds_toArray, List.set_cons_zero, List.set_cons_succ, i64_w, i32_w]
                      rfl
                    refine done_ (done_of HT_.out (by kernel_rfl)) ?_
                    try go_wp2
                    go_roundw
                    case rel => exact ⟨k + 1, rfl, by omega, A58, c58, by rw [hnew.out]; congr 1; simp; omega, ⟨by rw [hnew.out]; exact Kd.R_lower h58 HB1.size⟩, ⟨below_step HB1 hE⟩⟩
                    case measure => simp [intOf]; omega
                  · refine Kd.R_lit_step Kd.string (w0 := W0) W0.heap.size 9 ?hg (N := 53) ?hd (xs := [x]) (inner := [.string x]) (ok := fun k_ => k_ = (W1).heap.size) (okp := fun k_ => k_ = (W1).heap.size) ?hr ?hp (fun _ hk => hk) rfl hE (hE.size) (by simp) ?_
                    case hd => rfl
                    case hg => rfl
                    case hr => first | (go_simp; done) | (go_simp; rfl)
                    case hp => exact Kd.reps_scalar _
                    intro v53 W2 hr_ hb_ hg_ hn_
                    replace h44 := Kd.R_grown h44 hg_ (fun _ _ => by simp)
                    have h53 := hr_
                    have z53 : W1.heap.size < W2.heap.size := by obtain ⟨b_, e_, _⟩ := hn_; have h1_ := hr_.1 b_ e_; have h2_ := Kd.R_lt hr_ b_ e_; omega
                    replace hE := hb_
                    clear hr_ hb_ hg_ hn_
                    obtain ⟨A53, c53, e_⟩ := Kd.R_slice h53; subst e_
                    refine hK.out _ _ ((hE.cell (World.block_lt_of_cell? _ _ hx1)).trans hx1) (fun hHeld => ?_)
                    clear hK K
                    refine norm_ (a' := ?_) ?_ ?_
                    rotate_left
                    · show Act.put _ (some 53) _ = _
                      simp only [Act.put, List.setIfInBounds_toArray, List.set_cons_zero, List.set_cons_succ, i64_w, i32_w]
                      rfl
                    refine one_ (i := 4) (N := some 48) #[true, true, true, true, true, true, true, true, true, true, false, true, true, true, false, false] rfl rfl (one_of HT_.out (by kernel_rfl)) (by decide) (fun K hK => ?_)
                    refine Kd.R_append_rows_step Kd.string (w0 := W0) W0.heap.size (by rfl) (.tmp 44) (.tmp 47) 22 9 (.string ⟨#[]⟩) 16 rfl Try.underlying22 info9 rfl (by decide) (by omega) _ [] (out.take j) _ _ _ (fun _ => True) (fun _ => False) rfl rfl ?aO ?aR (fun _ _ h => h) (fun _ h => h.elim) (fun _ _ => trivial) hE hE.size ?aL ?_
                    case aO => exact Kd.R_mono h44 (fun _ _ => trivial)
                    case aR => exact C_at_ (Kd.C_below (Kd.C_take hCo hj) hE) (by rw [List.length_take]; omega)
                    case aL => simp; omega
                    intro v48 W3 hr_ hb_ hg_ hn_
                    replace h53 := Kd.R_grown h53 hg_ (fun k_ hk_ => by intro he_; have h1_ : k_ = W0.heap.size := h44.1 k_ he_.symm; have h2_ : k_ = W1.heap.size := hk_; omega)
                    have h48 := hr_
                    replace hE := hb_
                    clear hr_ hb_ hg_ hn_
                    obtain ⟨A48, c48, e_⟩ := Kd.R_slice h48; subst e_
                    refine hK.out _ _ ((hE.cell (World.block_lt_of_cell? _ _ hx1)).trans hx1) (fun hHeld => ?_)
                    clear hK K
                    refine norm_ (a' := ?_) ?_ ?_
                    rotate_left
                    · show Act.put _ (some 48) _ = _
                      simp only [Act.put, List.setIfInBounds_toArray, List.set_cons_zero, List.set_cons_succ, i64_w, i32_w]
                      rfl
                    refine one_ (i := 10) (N := some 54) #[true, true, true, true, true, true, true, true, true, true, true, true, true, true, false, false] rfl rfl (one_of HT_.out (by kernel_rfl)) (by decide) (fun K hK => ?_)
                    refine Kd.R_append_rows_step Kd.string (w0 := W0) W0.heap.size (by rfl) (.tmp 48) (.tmp 53) 22 9 (.string ⟨#[]⟩) 16 rfl Try.underlying22 info9 rfl (by decide) (by omega) _ ([] ++ out.take j) [x] _ _ _ (fun _ => True) (fun _ => False) rfl rfl ?aO ?aR (fun _ _ h => h) (fun _ h => h.elim) (fun _ _ => trivial) hE hE.size ?aL ?_
                    case aO => exact Kd.R_mono h48 (fun _ _ => trivial)
                    case aR => exact (Kd.R_reads' h53).2.2
                    case aL => simp; omega
                    intro v54 W4 hr_ hb_ hg_ hn_
                    have h54 := hr_
                    replace hE := hb_
                    clear hr_ hb_ hg_ hn_
                    obtain ⟨A54, c54, e_⟩ := Kd.R_slice h54; subst e_
                    refine hK.out _ _ ((hE.cell (World.block_lt_of_cell? _ _ hx1)).trans hx1) (fun hHeld => ?_)
                    clear hK K
                    refine norm_ (a' := ?_) ?_ ?_
                    rotate_left
                    · show Act.put _ (some 54) _ = _
                      simp only [Act.put, List.setIfInBounds_toArray, List.set_cons_zero, List.set_cons_succ, i64_w, i32_w]
                      rfl
                    refine one_ (i := 14) (N := some 58) #[true, true, true, true, true, true, true, true, true, true, true, true, true, true, true, false] rfl rfl (one_of HT_.out (by kernel_rfl)) (by decide) (fun K hK => ?_)
                    refine Kd.R_append_rows_step Kd.string (w0 := W0) W0.heap.size (by rfl) (.tmp 54) (.tmp 57) 22 9 (.string ⟨#[]⟩) 16 rfl Try.underlying22 info9 rfl (by decide) (by omega) _ ([] ++ out.take j ++ [x]) (out.drop j) _ _ _ (fun _ => True) (fun _ => False) rfl rfl ?aO ?aR (fun _ _ h => h) (fun _ h => h.elim) (fun _ _ => trivial) hE hE.size ?aL ?_
                    case aO => exact Kd.R_mono h54 (fun _ _ => trivial)
                    case aR => exact C_at_ (Kd.C_below (C_drop_ hCo hj hco) hE) (by rw [List.length_drop])
                    case aL => simp; omega
                    intro v58 W5 hr_ hb_ hg_ hn_
                    have h58 := hr_
                    replace hE := hb_
                    clear hr_ hb_ hg_ hn_
                    obtain ⟨A58, c58, e_⟩ := Kd.R_slice h58; subst e_
                    refine hK.out _ _ ((hE.cell (World.block_lt_of_cell? _ _ hx1)).trans hx1) (fun hHeld => ?_)
                    clear hK K
                    refine norm_ (a' := ?_) ?_ ?_
                    rotate_left
                    · show Act.put _ (some 58) _ = _
                      simp only [Act.put, List.setIfInBounds_toArray, List.set_cons_zero, List.set_cons_succ, i64_w, i32_w]
                      rfl
                    refine pure_ (i := 15) (N := some 3) (v := ?_) (a' := ?_) #[true, true, true, true, true, true, true, true, true, true, true, true, true, true, true, true] rfl rfl (any_of HT_.out (by kernel_rfl)) (fun _ _ _ h => h) (Or.inl ⟨by rfl, ?_⟩) ?_ ?_
                    rotate_left
                    · intro w'
                      go_simp
                      with_reducible rfl
                    rotate_left
                    · simp only [Act.put, List.setIfInBounds_toArray, List.set_cons_zero, List.set_cons_succ, i64_w, i32_w]
                      rfl
                    refine done_ (done_of HT_.out (by kernel_rfl)) ?_
                    try go_wp2
                    go_roundw
                    case rel => exact ⟨k + 1, rfl, by omega, A58, c58, by rw [hnew.out]; congr 1; simp; omega, ⟨by rw [hnew.out]; exact Kd.R_lower h58 HB1.size⟩, ⟨below_step HB1 hE⟩⟩
                    case measure => simp [intOf]; omega
                · refine Kd.R_lit_step Kd.string (w0 := W0) W0.heap.size 9 ?hg (N := 53) ?hd (xs := [x]) (inner := [.string x]) (ok := fun k_ => k_ = (W0).heap.size) (okp := fun k_ => k_ = (W0).heap.size) ?hr ?hp (fun _ hk => hk) rfl hE (hE.size) (by simp) ?_
                  case hd => rfl
                  case hg => rfl
                  case hr => first | (go_simp; done) | (go_simp; rfl)
                  case hp => exact Kd.reps_scalar _
                  intro v53 W1 hr_ hb_ hg_ hn_
                  have h53 := hr_
                  have z53 : W0.heap.size < W1.heap.size := by obtain ⟨b_, e_, _⟩ := hn_; have h1_ := hr_.1 b_ e_; have h2_ := Kd.R_lt hr_ b_ e_; omega
                  replace hE := hb_
                  clear hr_ hb_ hg_ hn_
                  obtain ⟨A53, c53, e_⟩ := Kd.R_slice h53; subst e_
                  refine hK.out _ _ ((hE.cell (World.block_lt_of_cell? _ _ hx1)).trans hx1) (fun hHeld => ?_)
                  clear hK K
                  refine norm_ (a' := ?_) ?_ ?_
                  rotate_left
                  · show Act.put _ (some 53) _ = _
                    simp only [Act.put, List.setIfInBounds_toArray, List.set_cons_zero, List.set_cons_succ, i64_w, i32_w]
                    rfl
                  refine one_ (i := 0) (N := some 44) #[true, true, true, true, false, true, true, true, true, true, false, true, true, true, false, false] rfl rfl (one_of HT_.out (by kernel_rfl)) (by decide) (fun K hK => ?_)
                  refine Kd.R_lit_step Kd.string (w0 := W0) W0.heap.size 9 ?hg (N := 44) ?hd (xs := ([] : List ByteArray)) (inner := []) (ok := fun k_ => k_ = (W1).heap.size) (okp := fun k_ => k_ = (W1).heap.size) ?hr ?hp (fun _ hk => hk) rfl hE (hE.size) (by simp) ?_
                  case hd => rfl
                  case hg => rfl
                  case hr => first | (go_simp; done) | (go_simp; rfl)
                  case hp => exact Reps.none _ _
                  intro v44 W2 hr_ hb_ hg_ hn_
                  replace h53 := Kd.R_grown h53 hg_ (fun _ _ => by simp)
                  have h44 := hr_
                  have z44 : W1.heap.size < W2.heap.size := by obtain ⟨b_, e_, _⟩ := hn_; have h1_ := hr_.1 b_ e_; have h2_ := Kd.R_lt hr_ b_ e_; omega
                  replace hE := hb_
                  clear hr_ hb_ hg_ hn_
                  obtain ⟨A44, c44, e_⟩ := Kd.R_slice h44; subst e_
                  refine hK.out _ _ ((hE.cell (World.block_lt_of_cell? _ _ hx1)).trans hx1) (fun hHeld => ?_)
                  clear hK K
                  refine norm_ (a' := ?_) ?_ ?_
                  rotate_left
                  · show Act.put _ (some 44) _ = _
                    simp only [Act.put, List.setIfInBounds_toArray, List.set_cons_zero, List.set_cons_succ, i64_w, i32_w]
                    rfl
                  refine one_ (i := 4) (N := some 48) #[true, true, true, true, true, true, true, true, true, true, false, true, true, true, false, false] rfl rfl (one_of HT_.out (by kernel_rfl)) (by decide) (fun K hK => ?_)
                  refine Kd.R_append_rows_step Kd.string (w0 := W0) W0.heap.size (by rfl) (.tmp 44) (.tmp 47) 22 9 (.string ⟨#[]⟩) 16 rfl Try.underlying22 info9 rfl (by decide) (by omega) _ [] (out.take j) _ _ _ (fun _ => True) (fun _ => False) rfl rfl ?aO ?aR (fun _ _ h => h) (fun _ h => h.elim) (fun _ _ => trivial) hE hE.size ?aL ?_
                  case aO => exact Kd.R_mono h44 (fun _ _ => trivial)
                  case aR => exact C_at_ (Kd.C_below (Kd.C_take hCo hj) hE) (by rw [List.length_take]; omega)
                  case aL => simp; omega
                  intro v48 W3 hr_ hb_ hg_ hn_
                  replace h53 := Kd.R_grown h53 hg_ (fun k_ hk_ => by intro he_; have h1_ : k_ = W1.heap.size := h44.1 k_ he_.symm; have h2_ : k_ = W0.heap.size := hk_; omega)
                  have h48 := hr_
                  replace hE := hb_
                  clear hr_ hb_ hg_ hn_
                  obtain ⟨A48, c48, e_⟩ := Kd.R_slice h48; subst e_
                  refine hK.out _ _ ((hE.cell (World.block_lt_of_cell? _ _ hx1)).trans hx1) (fun hHeld => ?_)
                  clear hK K
                  refine norm_ (a' := ?_) ?_ ?_
                  rotate_left
                  · show Act.put _ (some 48) _ = _
                    simp only [Act.put, List.setIfInBounds_toArray, List.set_cons_zero, List.set_cons_succ, i64_w, i32_w]
                    rfl
                  refine one_ (i := 10) (N := some 54) #[true, true, true, true, true, true, true, true, true, true, true, true, true, true, false, false] rfl rfl (one_of HT_.out (by kernel_rfl)) (by decide) (fun K hK => ?_)
                  refine Kd.R_append_rows_step Kd.string (w0 := W0) W0.heap.size (by rfl) (.tmp 48) (.tmp 53) 22 9 (.string ⟨#[]⟩) 16 rfl Try.underlying22 info9 rfl (by decide) (by omega) _ ([] ++ out.take j) [x] _ _ _ (fun _ => True) (fun _ => False) rfl rfl ?aO ?aR (fun _ _ h => h) (fun _ h => h.elim) (fun _ _ => trivial) hE hE.size ?aL ?_
                  case aO => exact Kd.R_mono h48 (fun _ _ => trivial)
                  case aR => exact (Kd.R_reads' h53).2.2
                  case aL => simp; omega
                  intro v54 W4 hr_ hb_ hg_ hn_
                  have h54 := hr_
                  replace hE := hb_
                  clear hr_ hb_ hg_ hn_
                  obtain ⟨A54, c54, e_⟩ := Kd.R_slice h54; subst e_
                  refine hK.out _ _ ((hE.cell (World.block_lt_of_cell? _ _ hx1)).trans hx1) (fun hHeld => ?_)
                  clear hK K
                  refine norm_ (a' := ?_) ?_ ?_
                  rotate_left
                  · show Act.put _ (some 54) _ = _
                    simp only [Act.put, List.setIfInBounds_toArray, List.set_cons_zero, List.set_cons_succ, i64_w, i32_w]
                    rfl
                  refine one_ (i := 14) (N := some 58) #[true, true, true, true, true, true, true, true, true, true, true, true, true, true, true, false] rfl rfl (one_of HT_.out (by kernel_rfl)) (by decide) (fun K hK => ?_)
                  refine Kd.R_append_rows_step Kd.string (w0 := W0) W0.heap.size (by rfl) (.tmp 54) (.tmp 57) 22 9 (.string ⟨#[]⟩) 16 rfl Try.underlying22 info9 rfl (by decide) (by omega) _ ([] ++ out.take j ++ [x]) (out.drop j) _ _ _ (fun _ => True) (fun _ => False) rfl rfl ?aO ?aR (fun _ _ h => h) (fun _ h => h.elim) (fun _ _ => trivial) hE hE.size ?aL ?_
                  case aO => exact Kd.R_mono h54 (fun _ _ => trivial)
                  case aR => exact C_at_ (Kd.C_below (C_drop_ hCo hj hco) hE) (by rw [List.length_drop])
                  case aL => simp; omega
                  intro v58 W5 hr_ hb_ hg_ hn_
                  have h58 := hr_
                  replace hE := hb_
                  clear hr_ hb_ hg_ hn_
                  obtain ⟨A58, c58, e_⟩ := Kd.R_slice h58; subst e_
                  refine hK.out _ _ ((hE.cell (World.block_lt_of_cell? _ _ hx1)).trans hx1) (fun hHeld => ?_)
                  clear hK K
                  refine norm_ (a' := ?_) ?_ ?_
                  rotate_left
                  · show Act.put _ (some 58) _ = _
                    simp only [Act.put, List.setIfInBounds_toArray, List.set_cons_zero, List.set_cons_succ, i64_w, i32_w]
                    rfl
                  refine pure_ (i := 15) (N := some 3) (v := ?_) (a' := ?_) #[true, true, true, true, true, true, true, true, true, true, true, true, true, true, true, true] rfl rfl (any_of HT_.out (by kernel_rfl)) (fun _ _ _ h => h) (Or.inl ⟨by rfl, ?_⟩) ?_ ?_
                  rotate_left
                  · intro w'
                    go_simp
                    with_reducible rfl
                  rotate_left
                  · simp only [Act.put, List.setIfInBounds_toArray, List.set_cons_zero, List.set_cons_succ, i64_w, i32_w]
                    rfl
                  refine done_ (done_of HT_.out (by kernel_rfl)) ?_
                  try go_wp2
                  go_roundw
                  case rel => exact ⟨k + 1, rfl, by omega, A58, c58, by rw [hnew.out]; congr 1; simp; omega, ⟨by rw [hnew.out]; exact Kd.R_lower h58 HB1.size⟩, ⟨below_step HB1 hE⟩⟩
                  case measure => simp [intOf]; omega
          · have hpos := Aside0.mk (srtPos_at x out j hj hlow.out (fun h => absurd h hjl))
            have hnew : srt (l0.take (k + 1)) = [] ++ out.take j ++ [x] ++ out.drop j := by
              rw [hsn.out]
              unfold srtIns
              rw [hpos.out, if_neg (fun h => hjl h.1), List.nil_append]
            have hnew := Aside0.mk hnew
            go_wp2
            go_quiet (fail)
            go_wp2
            obtain ⟨nq1, rfl⟩ : ∃ n_ : Nat, n_ = nq := ⟨_, rfl⟩
            go_quiet (fail)
            go_wp2
            have hjc : (j ≤ c) = True := eq_true (by omega)
            have hjo : (j ≤ out.length) = True := eq_true (by omega)
            refine start_ (n := 16) (S := fun w' => w'.cell? (ad0.add k) = some (.string x)) (ds := []) #[false, false, false, false, false, false, false, false, false, false, false, false, false, false, false, false] (by kernel_rfl) rfl rfl hx0 (fun hHeld => ?_); refine with_tabW w20_sorted.tab9 w20_sorted.bits9 (fun HT_ HW_ => ?_)
            have hE0 : Below wo.heap.size wo (((wo.drewN m).drewN nq1).drewN nq).drew := below_drew1 (pw_below_drewN (pw_below_drewN (pw_below_drewN (Below.refl _ _) _) _) _)
            have hCo := Kd.C_below HCo.out hE0
            have HB1 := below_step HB.out hE0
            clear HCo HB HO hE0
            generalize (((wo.drewN m).drewN nq1).drewN nq).drew = W0 at hCo HB1 hHeld ⊢
            have hx1 := hHeld
            have hE := Below.refl W0.heap.size W0
            refine pure_ (i := 1) (N := some 45) (v := ?_) (a' := ?_) #[false, true, false, false, false, false, false, false, false, false, false, false, false, false, false, false] rfl rfl (any_of HT_.out (by kernel_rfl)) (fun _ _ _ h => h) (Or.inl ⟨by rfl, ?_⟩) ?_ ?_
            rotate_left
            · intro w'
              go_simp
              with_reducible rfl
            rotate_left
            · simp only [Act.put, List.setIfInBounds_toArray, List.set_cons_zero, List.set_cons_succ, i64_w, i32_w]
              rfl
            refine pure_ (i := 2) (N := some 46) (v := ?_) (a' := ?_) #[false, true, true, false, false, false, false, false, false, false, false, false, false, false, false, false] rfl rfl (any_of HT_.out (by kernel_rfl)) (fun _ _ _ h => h) (Or.inl ⟨by rfl, ?_⟩) ?_ ?_
            rotate_left
            · intro w'
              go_simp
              with_reducible rfl
            rotate_left
            · simp only [Act.put, List.setIfInBounds_toArray, List.set_cons_zero, List.set_cons_succ, i64_w, i32_w]
              rfl
            refine pure_ (i := 3) (N := some 47) (v := ?_) (a' := ?_) #[false, true, true, true, false, false, false, false, false, false, false, false, false, false, false, false] rfl rfl (any_of HT_.out (by kernel_rfl)) (fun _ _ _ h => h) (Or.inl ⟨by rfl, ?_⟩) ?_ ?_
            rotate_left
            · intro w'
              go_simp
              with_reducible rfl
            rotate_left
            · simp only [Act.put, List.setIfInBounds_toArray, List.set_cons_zero, List.set_cons_succ, i64_w, i32_w]
              rfl
            refine pure_ (i := 5) (N := some 49) (v := ?_) (a' := ?_) #[false, true, true, true, false, true, false, false, false, false, false, false, false, false, false, false] rfl rfl (any_of HT_.out (by kernel_rfl)) (fun _ _ _ h => h) (Or.inl ⟨by rfl, ?_⟩) ?_ ?_
            rotate_left
            · intro w'
              go_simp
              with_reducible rfl
            rotate_left
            · simp only [Act.put, List.setIfInBounds_toArray, List.set_cons_zero, List.set_cons_succ, i64_w, i32_w]
              rfl
            refine pure_ (i := 6) (N := some 50) (v := ?_) (a' := ?_) #[false, true, true, true, false, true, true, false, false, false, false, false, false, false, false, false] rfl rfl (any_of HT_.out (by kernel_rfl)) (fun _ _ _ h => h) (Or.inl ⟨by rfl, ?_⟩) ?_ ?_
            rotate_left
            · intro w'
              go_simp
              with_reducible rfl
            rotate_left
            · simp only [Act.put, List.setIfInBounds_toArray, List.set_cons_zero, List.set_cons_succ, i64_w, i32_w]
              rfl
            refine pure_ (i := 7) (N := some 51) (v := ?_) (a' := ?_) #[false, true, true, true, false, true, true, true, false, false, false, false, false, false, false, false] rfl rfl (any_of HT_.out (by kernel_rfl)) (fun _ _ _ h => h) (Or.inl ⟨by rfl, ?_⟩) ?_ ?_
            rotate_left
            · intro w'
              go_simp
              with_reducible rfl
            rotate_left
            · simp only [Act.put, List.setIfInBounds_toArray, List.set_cons_zero, List.set_cons_succ, i64_w, i32_w]
              rfl
            refine take_ (i := 8) (N := some 52) (v := ?_) (a' := ?_) #[false, true, true, true, false, true, true, true, true, false, false, false, false, false, false, false] rfl rfl (take_ofW HT_.out HW_.out (by kernel_rfl)) (fun _ _ _ h => h) (Or.inl ⟨by rfl, ?_⟩) hHeld ?_ ?_
            rotate_left
            · rintro w' s0
              go_simp
              with_reducible rfl
            rotate_left
            · simp only [Act.put, List.setIfInBounds_toArray, List.set_cons_zero, List.set_cons_succ, i64_w, i32_w]
              rfl
            refine pure_ (i := 11) (N := some 55) (v := ?_) (a' := ?_) #[false, true, true, true, false, true, true, true, true, false, false, true, false, false, false, false] rfl rfl (any_of HT_.out (by kernel_rfl)) (fun _ _ _ h => h) (Or.inl ⟨by rfl, ?_⟩) ?_ ?_
            rotate_left
            · intro w'
              go_simp
              with_reducible rfl
            rotate_left
            · simp only [Act.put, List.setIfInBounds_toArray, List.set_cons_zero, List.set_cons_succ, i64_w, i32_w]
              rfl
            refine pure_ (i := 12) (N := some 56) (v := ?_) (a' := ?_) #[false, true, true, true, false, true, true, true, true, false, false, true, true, false, false, false] rfl rfl (any_of HT_.out (by kernel_rfl)) (fun _ _ _ h => h) (Or.inl ⟨by rfl, ?_⟩) ?_ ?_
            rotate_left
            · intro w'
              go_simp
              with_reducible rfl
            rotate_left
            · simp only [Act.put, List.setIfInBounds_toArray, List.set_cons_zero, List.set_cons_succ, i64_w, i32_w]
              rfl
            refine pure_ (i := 13) (N := some 57) (v := ?_) (a' := ?_) #[false, true, true, true, false, true, true, true, true, false, false, true, true, true, false, false] rfl rfl (any_of HT_.out (by kernel_rfl)) (fun _ _ _ h => h) (Or.inl ⟨by rfl, ?_⟩) ?_ ?_
            rotate_left
            · intro w'
              go_simp
              with_reducible rfl
            rotate_left
            · simp only [Act.put, List.setIfInBounds_toArray, List.set_cons_zero, List.set_cons_succ, i64_w, i32_w]
              rfl
            refine two_ (i := 0) (j := 9) (Ni := some 44) (Nj := some 53) #[true, true, true, true, false, true, true, true, true, false, false, true, true, true, false, false] #[false, true, true, true, false, true, true, true, true, true, false, true, true, true, false, false] rfl rfl rfl rfl (two_of HT_.out (by kernel_rfl)) (by decide) (by decide) (fun K hK => ?_) (fun K hK => ?_)
            · refine Kd.R_lit_step Kd.string (w0 := W0) W0.heap.size 9 ?hg (N := 44) ?hd (xs := ([] : List ByteArray)) (inner := []) (ok := fun k_ => k_ = (W0).heap.size) (okp := fun k_ => k_ = (W0).heap.size) ?hr ?hp (fun _ hk => hk) rfl hE (hE.size) (by simp) ?_
              case hd => rfl
              case hg => rfl
              case hr => first | (go_simp; done) | (go_simp; rfl)
              case hp => exact Reps.none _ _
              intro v44 W1 hr_ hb_ hg_ hn_
              have h44 := hr_
              have z44 : W0.heap.size < W1.heap.size := by obtain ⟨b_, e_, _⟩ := hn_; have h1_ := hr_.1 b_ e_; have h2_ := Kd.R_lt hr_ b_ e_; omega
              replace hE := hb_
              clear hr_ hb_ hg_ hn_
              obtain ⟨A44, c44, e_⟩ := Kd.R_slice h44; subst e_
              refine hK.out _ _ ((hE.cell (World.block_lt_of_cell? _ _ hx1)).trans hx1) (fun hHeld => ?_)
              clear hK K
              refine norm_ (a' := ?_) ?_ ?_
              rotate_left
              · show Act.put _ (some 44) _ = _
                simp only [Act.put, List.setIfInBounds_toArray, List.set_cons_zero, List.set_cons_succ, i64_w, i32_w]
                rfl
              refine two_ (i := 4) (j := 9) (Ni := some 48) (Nj := some 53) #[true, true, true, true, true, true, true, true, true, false, false, true, true, true, false, false] #[true, true, true, true, false, true, true, true, true, true, false, true, true, true, false, false] rfl rfl rfl rfl (two_of HT_.out (by kernel_rfl)) (by decide) (by decide) (fun K hK => ?_) (fun K hK => ?_)
              · refine Kd.R_append_rows_step Kd.string (w0 := W0) W0.heap.size (by rfl) (.tmp 44) (.tmp 47) 22 9 (.string ⟨#[]⟩) 16 rfl Try.underlying22 info9 rfl (by decide) (by omega) _ [] (out.take j) _ _ _ (fun _ => True) (fun _ => False) rfl rfl ?aO ?aR (fun _ _ h => h) (fun _ h => h.elim) (fun _ _ => trivial) hE hE.size ?aL ?_
                case aO => exact Kd.R_mono h44 (fun _ _ => trivial)
                case aR => exact C_at_ (Kd.C_below (Kd.C_take hCo hj) hE) (by rw [List.length_take]; omega)
                case aL => simp; omega
                intro v48 W2 hr_ hb_ hg_ hn_
                have h48 := hr_
                replace hE := hb_
                clear hr_ hb_ hg_ hn_
                obtain ⟨A48, c48, e_⟩ := Kd.R_slice h48; subst e_
                refine hK.out _ _ ((hE.cell (World.block_lt_of_cell? _ _ hx1)).trans hx1) (fun hHeld => ?_)
                clear hK K
                refine norm_ (a' := ?_) ?_ ?_
                rotate_left
                · show Act.put _ (some 48) _ = _
                  simp only [Act.put, List.setIfInBounds_toArray, List.set_cons_zero, List.set_cons_succ, i64_w, i32_w]
                  rfl
                refine one_ (i := 9) (N := some 53) #[true, true, true, true, true, true, true, true, true, true, false, true, true, true, false, false] rfl rfl (one_of HT_.out (by kernel_rfl)) (by decide) (fun K hK => ?_)
                refine Kd.R_lit_step Kd.string (w0 := W0) W0.heap.size 9 ?hg (N := 53) ?hd (xs := [x]) (inner := [.string x]) (ok := fun k_ => k_ = (W2).heap.size) (okp := fun k_ => k_ = (W2).heap.size) ?hr ?hp (fun _ hk => hk) rfl hE (hE.size) (by simp) ?_
                case hd => rfl
                case hg => rfl
                case hr => first | (go_simp; done) | (go_simp; rfl)
                case hp => exact Kd.reps_scalar _
                intro v53 W3 hr_ hb_ hg_ hn_
                replace h48 := Kd.R_grown h48 hg_ (fun _ _ => by simp)
                have h53 := hr_
                have z53 : W2.heap.size < W3.heap.size := by obtain ⟨b_, e_, _⟩ := hn_; have h1_ := hr_.1 b_ e_; have h2_ := Kd.R_lt hr_ b_ e_; omega
                replace hE := hb_
                clear hr_ hb_ hg_ hn_
                obtain ⟨A53, c53, e_⟩ := Kd.R_slice h53; subst e_
                refine hK.out _ _ ((hE.cell (World.block_lt_of_cell? _ _ hx1)).trans hx1) (fun hHeld => ?_)
                clear hK K
                refine norm_ (a' := ?_) ?_ ?_
                rotate_left
                · show Act.put _ (some 53) _ = _
                  simp only [Act.put, List.setIfInBounds_toArray, List.set_cons_zero, List.set_cons_succ, i64_w, i32_w]
                  rfl
                refine one_ (i := 10) (N := some 54) #[true, true, true, true, true, true, true, true, true, true, true, true, true, true, false, false] rfl rfl (one_of HT_.out (by kernel_rfl)) (by decide) (fun K hK => ?_)
                refine Kd.R_append_rows_step Kd.string (w0 := W0) W0.heap.size (by rfl) (.tmp 48) (.tmp 53) 22 9 (.string ⟨#[]⟩) 16 rfl Try.underlying22 info9 rfl (by decide) (by omega) _ ([] ++ out.take j) [x] _ _ _ (fun _ => True) (fun _ => False) rfl rfl ?aO ?aR (fun _ _ h => h) (fun _ h => h.elim) (fun _ _ => trivial) hE hE.size ?aL ?_
                case aO => exact Kd.R_mono h48 (fun _ _ => trivial)
                case aR => exact (Kd.R_reads' h53).2.2
                case aL => simp; omega
                intro v54 W4 hr_ hb_ hg_ hn_
                have h54 := hr_
                replace hE := hb_
                clear hr_ hb_ hg_ hn_
                obtain ⟨A54, c54, e_⟩ := Kd.R_slice h54; subst e_
                refine hK.out _ _ ((hE.cell (World.block_lt_of_cell? _ _ hx1)).trans hx1) (fun hHeld => ?_)
                clear hK K
                refine norm_ (a' := ?_) ?_ ?_
                rotate_left
                · show Act.put _ (some 54) _ = _
                  simp only [Act.put, List.setIfInBounds_toArray, List.set_cons_zero, List.set_cons_succ, i64_w, i32_w]
                  rfl
                refine one_ (i := 14) (N := some 58) #[true, true, true, true, true, true, true, true, true, true, true, true, true, true, true, false] rfl rfl (one_of HT_.out (by kernel_rfl)) (by decide) (fun K hK => ?_)
                refine Kd.R_append_rows_step Kd.string (w0 := W0) W0.heap.size (by rfl) (.tmp 54) (.tmp 57) 22 9 (.string ⟨#[]⟩) 16 rfl Try.underlying22 info9 rfl (by decide) (by omega) _ ([] ++ out.take j ++ [x]) (out.drop j) _ _ _ (fun _ => True) (fun _ => False) rfl rfl ?aO ?aR (fun _ _ h => h) (fun _ h => h.elim) (fun _ _ => trivial) hE hE.size ?aL ?_
                case aO => exact Kd.R_mono h54 (fun _ _ => trivial)
                case aR => exact C_at_ (Kd.C_below (C_drop_ hCo hj hco) hE) (by rw [List.length_drop])
                case aL => simp; omega
                intro v58 W5 hr_ hb_ hg_ hn_
                have h58 := hr_
                replace hE := hb_
                clear hr_ hb_ hg_ hn_
                obtain ⟨A58, c58, e_⟩ := Kd.R_slice h58; subst e_
                refine hK.out _ _ ((hE.cell (World.block_lt_of_cell? _ _ hx1)).trans hx1) (fun hHeld => ?_)
                clear hK K
                refine norm_ (a' := ?_) ?_ ?_
                rotate_left
                · show Act.put _ (some 58) _ = _
                  simp only [Act.put, List.setIfInBounds_toArray, List.set_cons_zero, List.set_cons_succ, i64_w, i32_w]
                  rfl
                refine pure_ (i := 15) (N := some 3) (v := ?_) (a' := ?_) #[true, true, true, true, true, true, true, true, true, true, true, true, true, true, true, true] rfl rfl (any_of HT_.out (by kernel_rfl)) (fun _ _ _ h => h) (Or.inl ⟨by rfl, ?_⟩) ?_ ?_
                rotate_left
                · intro w'
                  go_simp
                  with_reducible rfl
                rotate_left
                · simp only [Act.put, List.setIfInBounds_toArray, List.set_cons_zero, List.set_cons_succ, i64_w, i32_w]
                  rfl
                refine done_ (done_of HT_.out (by kernel_rfl)) ?_
                try go_wp2
                go_roundw
                case rel => exact ⟨k + 1, rfl, by omega, A58, c58, by rw [hnew.out]; congr 1; simp; omega, ⟨by rw [hnew.out]; exact Kd.R_lower h58 HB1.size⟩, ⟨below_step HB1 hE⟩⟩
                case measure => simp [intOf]; omega
              · refine Kd.R_lit_step Kd.string (w0 := W0) W0.heap.size 9 ?hg (N := 53) ?hd (xs := [x]) (inner := [.string x]) (ok := fun k_ => k_ = (W1).heap.size) (okp := fun k_ => k_ = (W1).heap.size) ?hr ?hp (fun _ hk => hk) rfl hE (hE.size) (by simp) ?_
                case hd => rfl
                case hg => rfl
                case hr => first | (go_simp; done) | (go_simp; rfl)
                case hp => exact Kd.reps_scalar _
                intro v53 W2 hr_ hb_ hg_ hn_
                replace h44 := Kd.R_grown h44 hg_ (fun _ _ => by simp)
                have h53 := hr_
                have z53 : W1.heap.size < W2.heap.size := by obtain ⟨b_, e_, _⟩ := hn_; have h1_ := hr_.1 b_ e_; have h2_ := Kd.R_lt hr_ b_ e_; omega
                replace hE := hb_
                clear hr_ hb_ hg_ hn_
                obtain ⟨A53, c53, e_⟩ := Kd.R_slice h53; subst e_
                refine hK.out _ _ ((hE.cell (World.block_lt_of_cell? _ _ hx1)).trans hx1) (fun hHeld => ?_)
                clear hK K
                refine norm_ (a' := ?_) ?_ ?_
                rotate_left
                · show Act.put _ (some 53) _ = _
                  simp only [Act.put, List.setIfInBounds_toArray, List.set_cons_zero, List.set_cons_succ, i64_w, i32_w]
                  rfl
                refine one_ (i := 4) (N := some 48) #[true, true, true, true, true, true, true, true, true, true, false, true, true, true, false, false] rfl rfl (one_of HT_.out (by kernel_rfl)) (by decide) (fun K hK => ?_)
                refine Kd.R_append_rows_step Kd.string (w0 := W0) W0.heap.size (by rfl) (.tmp 44) (.tmp 47) 22 9 (.string ⟨#[]⟩) 16 rfl Try.underlying22 info9 rfl (by decide) (by omega) _ [] (out.take j) _ _ _ (fun _ => True) (fun _ => False) rfl rfl ?aO ?aR (fun _ _ h => h) (fun _ h => h.elim) (fun _ _ => trivial) hE hE.size ?aL ?_
                case aO => exact Kd.R_mono h44 (fun _ _ => trivial)
                case aR => exact C_at_ (Kd.C_below (Kd.C_take hCo hj) hE) (by rw [List.length_take]; omega)
                case aL => simp; omega
                intro v48 W3 hr_ hb_ hg_ hn_
                replace h53 := Kd.R_grown h53 hg_ (fun k_ hk_ => by intro he_; have h1_ : k_ = W0.heap.size := h44.1 k_ he_.symm; have h2_ : k_ = W1.heap.size := hk_; omega)
                have h48 := hr_
                replace hE := hb_
                clear hr_ hb_ hg_ hn_
                obtain ⟨A48, c48, e_⟩ := Kd.R_slice h48; subst e_
                refine hK.out _ _ ((hE.cell (World.block_lt_of_cell? _ _ hx1)).trans hx1) (fun hHeld => ?_)
                clear hK K
                refine norm_ (a' := ?_) ?_ ?_
                rotate_left
                · show Act.put _ (some 48) _ = _
                  simp only [Act.put, List.setIfInBounds_toArray, List.set_cons_zero, List.set_cons_succ, i64_w, i32_w]
                  rfl
                refine one_ (i := 10) (N := some 54) #[true, true, true, true, true, true, true, true, true, true, true, true, true, true, false, false] rfl rfl (one_of HT_.out (by kernel_rfl)) (by decide) (fun K hK => ?_)
                refine Kd.R_append_rows_step Kd.string (w0 := W0) W0.heap.size (by rfl) (.tmp 48) (.tmp 53) 22 9 (.string ⟨#[]⟩) 16 rfl Try.underlying22 info9 rfl (by decide) (by omega) _ ([] ++ out.take j) [x] _ _ _ (fun _ => True) (fun _ => False) rfl rfl ?aO ?aR (fun _ _ h => h) (fun _ h => h.elim) (fun _ _ => trivial) hE hE.size ?aL ?_
                case aO => exact Kd.R_mono h48 (fun _ _ => trivial)
                case aR => exact (Kd.R_reads' h53).2.2
                case aL => simp; omega
                intro v54 W4 hr_ hb_ hg_ hn_
                have h54 := hr_
                replace hE := hb_
                clear hr_ hb_ hg_ hn_
                obtain ⟨A54, c54, e_⟩ := Kd.R_slice h54; subst e_
                refine hK.out _ _ ((hE.cell (World.block_lt_of_cell? _ _ hx1)).trans hx1) (fun hHeld => ?_)
                clear hK K
                refine norm_ (a' := ?_) ?_ ?_
                rotate_left
                · show Act.put _ (some 54) _ = _
                  simp only [Act.put, List.setIfInBounds_toArray, List.set_cons_zero, List.set_cons_succ, i64_w, i32_w]
                  rfl
                refine one_ (i := 14) (N := some 58) #[true, true, true, true, true, true, true, true, true, true, true, true, true, true, true, false] rfl rfl (one_of HT_.out (by kernel_rfl)) (by decide) (fun K hK => ?_)
                refine Kd.R_append_rows_step Kd.string (w0 := W0) W0.heap.size (by rfl) (.tmp 54) (.tmp 57) 22 9 (.string ⟨#[]⟩) 16 rfl Try.underlying22 info9 rfl (by decide) (by omega) _ ([] ++ out.take j ++ [x]) (out.drop j) _ _ _ (fun _ => True) (fun _ => False) rfl rfl ?aO ?aR (fun _ _ h => h) (fun _ h => h.elim) (fun _ _ => trivial) hE hE.size ?aL ?_
                case aO => exact Kd.R_mono h54 (fun _ _ => trivial)
                case aR => exact C_at_ (Kd.C_below (C_drop_ hCo hj hco) hE) (by rw [List.length_drop])
                case aL => simp; omega
                intro v58 W5 hr_ hb_ hg_ hn_
                have h58 := hr_
                replace hE := hb_
                clear hr_ hb_ hg_ hn_
                obtain ⟨A58, c58, e_⟩ := Kd.R_slice h58; subst e_
                refine hK.out _ _ ((hE.cell (World.block_lt_of_cell? _ _ hx1)).trans hx1) (fun hHeld => ?_)
                clear hK K
                refine norm_ (a' := ?_) ?_ ?_
                rotate_left
                · show Act.put _ (some 58) _ = _
                  simp only [Act.put, List.setIfInBounds_toArray, List.set_cons_zero, List.set_cons_succ, i64_w, i32_w]
                  rfl
                refine pure_ (i := 15) (N := some 3) (v := ?_) (a' := ?_) #[true, true, true, true, true, true, true, true, true, true, true, true, true, true, true, true] rfl rfl (any_of HT_.out (by kernel_rfl)) (fun _ _ _ h => h) (Or.inl ⟨by rfl, ?_⟩) ?_ ?_
                rotate_left
                · intro w'
                  go_simp
                  with_reducible rfl
                rotate_left
                · simp only [Act.put, List.setIfInBounds_toArray, List.set_cons_zero, List.set_cons_succ, i64_w, i32_w]
                  rfl
                refine done_ (done_of HT_.out (by kernel_rfl)) ?_
                try go_wp2
                go_roundw
                case rel => exact ⟨k + 1, rfl, by omega, A58, c58, by rw [hnew.out]; congr 1; simp; omega, ⟨by rw [hnew.out]; exact Kd.R_lower h58 HB1.size⟩, ⟨below_step HB1 hE⟩⟩
                case measure => simp [intOf]; omega
            · refine Kd.R_lit_step Kd.string (w0 := W0) W0.heap.size 9 ?hg (N := 53) ?hd (xs := [x]) (inner := [.string x]) (ok := fun k_ => k_ = (W0).heap.size) (okp := fun k_ => k_ = (W0).heap.size) ?hr ?hp (fun _ hk => hk) rfl hE (hE.size) (by simp) ?_
              case hd => rfl
              case hg => rfl
              case hr => first | (go_simp; done) | (go_simp; rfl)
              case hp => exact Kd.reps_scalar _
              intro v53 W1 hr_ hb_ hg_ hn_
              have h53 := hr_
              have z53 : W0.heap.size < W1.heap.size := by obtain ⟨b_, e_, _⟩ := hn_; have h1_ := hr_.1 b_ e_; have h2_ := Kd.R_lt hr_ b_ e_; omega
              replace hE := hb_
              clear hr_ hb_ hg_ hn_
              obtain ⟨A53, c53, e_⟩ := Kd.R_slice h53; subst e_
              refine hK.out _ _ ((hE.cell (World.block_lt_of_cell? _ _ hx1)).trans hx1) (fun hHeld => ?_)
              clear hK K
              refine norm_ (a' := ?_) ?_ ?_
              rotate_left
              · show Act.put _ (some 53) _ = _
                simp only [Act.put, List.setIfInBounds_toArray, List.set_cons_zero, List.set_cons_succ, i64_w, i32_w]
                rfl
              refine one_ (i := 0) (N := some 44) #[true, true, true, true, false, true, true, true, true, true, false, true, true, true, false, false] rfl rfl (one_of HT_.out (by kernel_rfl)) (by decide) (fun K hK => ?_)
              refine Kd.R_lit_step Kd.string (w0 := W0) W0.heap.size 9 ?hg (N := 44) ?hd (xs := ([] : List ByteArray)) (inner := []) (ok := fun k_ => k_ = (W1).heap.size) (okp := fun k_ => k_ = (W1).heap.size) ?hr ?hp (fun _ hk => hk) rfl hE (hE.size) (by simp) ?_
              case hd => rfl
              case hg => rfl
              case hr => first | (go_simp; done) | (go_simp; rfl)
              case hp => exact Reps.none _ _
              intro v44 W2 hr_ hb_ hg_ hn_
              replace h53 := Kd.R_grown h53 hg_ (fun _ _ => by simp)
              have h44 := hr_
              have z44 : W1.heap.size < W2.heap.size := by obtain ⟨b_, e_, _⟩ := hn_; have h1_ := hr_.1 b_ e_; have h2_ := Kd.R_lt hr_ b_ e_; omega
              replace hE := hb_
              clear hr_ hb_ hg_ hn_
              obtain ⟨A44, c44, e_⟩ := Kd.R_slice h44; subst e_
              refine hK.out _ _ ((hE.cell (World.block_lt_of_cell? _ _ hx1)).trans hx1) (fun hHeld => ?_)
              clear hK K
              refine norm_ (a' := ?_) ?_ ?_
              rotate_left
              · show Act.put _ (some 44) _ = _
                simp only [Act.put, List.setIfInBounds_toArray, List.set_cons_zero, List.set_cons_succ, i64_w, i32_w]
                rfl
              refine one_ (i := 4) (N := some 48) #[true, true, true, true, true, true, true, true, true, true, false, true, true, true, false, false] rfl rfl (one_of HT_.out (by kernel_rfl)) (by decide) (fun K hK => ?_)
              refine Kd.R_append_rows_step Kd.string (w0 := W0) W0.heap.size (by rfl) (.tmp 44) (.tmp 47) 22 9 (.string ⟨#[]⟩) 16 rfl Try.underlying22 info9 rfl (by decide) (by omega) _ [] (out.take j) _ _ _ (fun _ => True) (fun _ => False) rfl rfl ?aO ?aR (fun _ _ h => h) (fun _ h => h.elim) (fun _ _ => trivial) hE hE.size ?aL ?_
              case aO => exact Kd.R_mono h44 (fun _ _ => trivial)
              case aR => exact C_at_ (Kd.C_below (Kd.C_take hCo hj) hE) (by rw [List.length_take]; omega)
              case aL => simp; omega
              intro v48 W3 hr_ hb_ hg_ hn_
              replace h53 := Kd.R_grown h53 hg_ (fun k_ hk_ => by intro he_; have h1_ : k_ = W1.heap.size := h44.1 k_ he_.symm; have h2_ : k_ = W0.heap.size := hk_; omega)
              have h48 := hr_
              replace hE := hb_
              clear hr_ hb_ hg_ hn_
              obtain ⟨A48, c48, e_⟩ := Kd.R_slice h48; subst e_
              refine hK.out _ _ ((hE.cell (World.block_lt_of_cell? _ _ hx1)).trans hx1) (fun hHeld => ?_)
              clear hK K
              refine norm_ (a' := ?_) ?_ ?_
              rotate_left
              · show Act.put _ (some 48) _ = _
                simp only [Act.put, List.setIfInBounds_toArray, List.set_cons_zero, List.set_cons_succ, i64_w, i32_w]
                rfl
              refine one_ (i := 10) (N := some 54) #[true, true, true, true, true, true, true, true, true, true, true, true, true, true, false, false] rfl rfl (one_of HT_.out (by kernel_rfl)) (by decide) (fun K hK => ?_)
              refine Kd.R_append_rows_step Kd.string (w0 := W0) W0.heap.size (by rfl) (.tmp 48) (.tmp 53) 22 9 (.string ⟨#[]⟩) 16 rfl Try.underlying22 info9 rfl (by decide) (by omega) _ ([] ++ out.take j) [x] _ _ _ (fun _ => True) (fun _ => False) rfl rfl ?aO ?aR (fun _ _ h => h) (fun _ h => h.elim) (fun _ _ => trivial) hE hE.size ?aL ?_
              case aO => exact Kd.R_mono h48 (fun _ _ => trivial)
              case aR => exact (Kd.R_reads' h53).2.2
              case aL => simp; omega
              intro v54 W4 hr_ hb_ hg_ hn_
              have h54 := hr_
              replace hE := hb_
              clear hr_ hb_ hg_ hn_
              obtain ⟨A54, c54, e_⟩ := Kd.R_slice h54; subst e_
              refine hK.out _ _ ((hE.cell (World.block_lt_of_cell? _ _ hx1)).trans hx1) (fun hHeld => ?_)
              clear hK K
              refine norm_ (a' := ?_) ?_ ?_
              rotate_left
              · show Act.put _ (some 54) _ = _
                simp only [Act.put, List.setIfInBounds_toArray, List.set_cons_zero, List.set_cons_succ, i64_w, i32_w]
                rfl
              refine one_ (i := 14) (N := some 58) #[true, true, true, true, true, true, true, true, true, true, true, true, true, true, true, false] rfl rfl (one_of HT_.out (by kernel_rfl)) (by decide) (fun K hK => ?_)
              refine Kd.R_append_rows_step Kd.string (w0 := W0) W0.heap.size (by rfl) (.tmp 54) (.tmp 57) 22 9 (.string ⟨#[]⟩) 16 rfl Try.underlying22 info9 rfl (by decide) (by omega) _ ([] ++ out.take j ++ [x]) (out.drop j) _ _ _ (fun _ => True) (fun _ => False) rfl rfl ?aO ?aR (fun _ _ h => h) (fun _ h => h.elim) (fun _ _ => trivial) hE hE.size ?aL ?_
              case aO => exact Kd.R_mono h54 (fun _ _ => trivial)
              case aR => exact C_at_ (Kd.C_below (C_drop_ hCo hj hco) hE) (by rw [List.length_drop])
              case aL => simp; omega
              intro v58 W5 hr_ hb_ hg_ hn_
              have h58 := hr_
              replace hE := hb_
              clear hr_ hb_ hg_ hn_
              obtain ⟨A58, c58, e_⟩ := Kd.R_slice h58; subst e_
              refine hK.out _ _ ((hE.cell (World.block_lt_of_cell? _ _ hx1)).trans hx1) (fun hHeld => ?_)
              clear hK K
              refine norm_ (a' := ?_) ?_ ?_
              rotate_left
              · show Act.put _ (some 58) _ = _
                simp only [Act.put, List.setIfInBounds_toArray, List.set_cons_zero, List.set_cons_succ, i64_w, i32_w]
                rfl
              refine pure_ (i := 15) (N := some 3) (v := ?_) (a' := ?_) #[true, true, true, true, true, true, true, true, true, true, true, true, true, true, true, true] rfl rfl (any_of HT_.out (by kernel_rfl)) (fun _ _ _ h => h) (Or.inl ⟨by rfl, ?_⟩) ?_ ?_
              rotate_left
              · intro w'
                go_simp
                with_reducible rfl
              rotate_left
              · simp only [Act.put, List.setIfInBounds_toArray, List.set_cons_zero, List.set_cons_succ, i64_w, i32_w]
                rfl
              refine done_ (done_of HT_.out (by kernel_rfl)) ?_
              try go_wp2
              go_roundw
              case rel => exact ⟨k + 1, rfl, by omega, A58, c58, by rw [hnew.out]; congr 1; simp; omega, ⟨by rw [hnew.out]; exact Kd.R_lower h58 HB1.size⟩, ⟨below_step HB1 hE⟩⟩
              case measure => simp [intOf]; omega
      · obtain rfl : k = l0.length := by omega
        simp only [List.take_length] at HO ⊢
        go_wp2
        go_ret
        exact ⟨_, rfl, HO.out, HB.out⟩
  · rw [if_neg hl] at h
    cases h

end Go.Proofs.Ytbhmffbpbicilaa.P
