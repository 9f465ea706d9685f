-- by xprint (this session's program over the kit's printer)
import Derived.Test.YtbhmffbpbicilaaPx0
import Derived.Test.YtbhmffbpbicilaaPx2
import Derived.Test.YtbhmffbpbicilaaPx5
import Derived.RangeFuncNested
import Derived.RangeFuncBound
import Derived.RangeFuncCalls
import Derived.RangeFuncLeaves
import Derived.Shelf.Abstract
import Derived.Shelf.RegionOpen
import Derived.OwnWalkIn
import Derived.TacticsInMore
import Derived.LoopNIn
import Derived.LoopIn
import Derived.WalkSpells
import Derived.WalkLawsBesides
import Derived.Outline
import Derived.Test.YtbhmffbpbicilaaRangeM
namespace Go.Proofs.Ytbhmffbpbicilaa.P
open Go.RowKit Go.Proofs.YtbhmffbpbicilaaW.PrintWords Go.Proofs.YtbhmffbpbicilaaW.PrintLast Go.Proofs.YtbhmffbpbicilaaW.PrintMore
attribute [local go_sem] max2_int min2_int max_two min_two max_three min_three max_four min_four   -- for this text's walks alone
set_option linter.unusedVariables false
set_option linter.unusedSimpArgs false

/-! ### entries: the entries that a list's names give, as the function yields them -/
attribute [local go_sem] Oper.semAt_some
/-- Are two entries the same? -/
def lpSame (x0 y0 : ByteArray) (x1 y1 : Bool) : Bool := x0.toList == y0.toList && (x1 == y1)
theorem lpEq (d : Nat) (w : World) (x0 y0 : ByteArray) (x1 y1 : Bool) :
    (Op.equalIn (d + 2) 47 (.agg #[.string x0, .bool x1]) (.agg #[.string y0, .bool y1])).run Try.prog w = .ok (lpSame x0 y0 x1 y1) w := by
  unfold lpSame
  refine eqA_of Try.underlying47 (by kernel_rfl) ?_
  refine eqf_cons (by rfl) (by go_simp; rfl) (by go_simp; rfl) (by go_simp) ?_
  exact eqf_last (by rfl) (by go_simp; rfl) (by go_simp; rfl) (by go_simp)
attribute [local go_sem high] lpEq
/-- The entries behind one that was told last. -/
def lpEnts (pre delim after : ByteArray) : List ByteArray → ByteArray × Bool → Option (List (ByteArray × Bool))
  | [], _ => some []
  | s :: l, last => (strings_HasPrefix.f s pre).bind fun h => if h = true then
      (listing_of.f s pre delim).bind fun x =>
        if (Op.bytesLess x.1.toList after.toList || x.1.toList == after.toList) = true then lpEnts pre delim after l last
        else if lpSame x.1 last.1 x.2 last.2 = true then lpEnts pre delim after l last else (lpEnts pre delim after l x).map (x :: ·)
    else lpEnts pre delim after l last
/-- The iterator's own moves: new blocks, and stores into cells of entries that it has laid. -/
def LpMv (n1 : Nat) (X Y : World) : Prop := ∃ row, X.grownBy Y row ∧ ∀ r, row = some r → n1 ≤ r ∧ ∃ cs f, X.heap[r]? = some (.cells cs 47 f)
/-- What a round keeps. -/
def LpKp (n0 : Nat) (S : List Nat) (X Y : World) : Prop := Below n0 X Y ∧ ∀ b cs t f, X.heap[b]? = some (.cells cs t f) → (b ∈ S ∨ t = 47) → Y.heap[b]? = some (.cells cs t f)
/-- What the iterator reads. -/
def LpEnt (w0 : World) (A : Option Addr) (n c Ba Bn Bp Bd : Nat) (pre delim after : ByteArray) (X : World) : Prop :=
  Below w0.heap.size w0 X ∧ X.heap[Ba]? = some (.cells #[.string after] 9 (0, 0)) ∧ X.heap[Bn]? = some (.cells #[.slice A n c] 22 (0, 0)) ∧ X.heap[Bp]? = some (.cells #[.string pre] 9 (0, 0)) ∧ X.heap[Bd]? = some (.cells #[.string delim] 9 (0, 0))
theorem LpEnt.kept {w0 : World} {A : Option Addr} {n c Ba Bn Bp Bd : Nat} {pre delim after : ByteArray} {X Y : World} (h : LpEnt w0 A n c Ba Bn Bp Bd pre delim after X) (k : LpKp w0.heap.size [Ba, Bn, Bp, Bd] X Y) : LpEnt w0 A n c Ba Bn Bp Bd pre delim after Y :=
  ⟨h.1.trans k.1, k.2 _ _ _ _ h.2.1 (.inl (by simp)), k.2 _ _ _ _ h.2.2.1 (.inl (by simp)), k.2 _ _ _ _ h.2.2.2.1 (.inl (by simp)), k.2 _ _ _ _ h.2.2.2.2 (.inl (by simp))⟩
theorem LpEnt.move {w0 : World} {A : Option Addr} {n c Ba Bn Bp Bd : Nat} {pre delim after : ByteArray} {X Y : World} (h : LpEnt w0 A n c Ba Bn Bp Bd pre delim after X) {n1 : Nat} (hn : w0.heap.size ≤ n1) (k : LpMv n1 X Y) : LpEnt w0 A n c Ba Bn Bp Bd pre delim after Y := by
  obtain ⟨row, hg, hr⟩ := k
  have hne : ∀ (b : Nat) (cs : Array Value) (t : Nat), t ≠ 47 → X.heap[b]? = some (.cells cs t (0, 0)) → some b ≠ row := by
    rintro b cs t ht hb rfl
    obtain ⟨_, cs', f, hb'⟩ := hr b rfl
    rw [hb] at hb'
    cases hb'
    exact ht rfl
  exact ⟨h.1.grown hg h.1.size (fun k e => Nat.le_trans hn (hr k e).1), blk_grown h.2.1 hg (hne _ _ _ (by decide) h.2.1), blk_grown h.2.2.1 hg (hne _ _ _ (by decide) h.2.2.1), blk_grown h.2.2.2.1 hg (hne _ _ _ (by decide) h.2.2.2.1), blk_grown h.2.2.2.2 hg (hne _ _ _ (by decide) h.2.2.2.2)⟩
theorem LpMv.alloc (n1 : Nat) (X : World) (o : Obj) : LpMv n1 X (X.alloc o) := ⟨none, World.grownBy_alloc X o none, fun r e => by cases e⟩
theorem LpMv.drewN (n1 : Nat) (X : World) (m : Nat) : LpMv n1 X (X.drewN m) := ⟨none, ⟨rfl, rfl, rfl, Nat.le_refl _, fun _ _ _ => rfl⟩, fun r e => by cases e⟩
theorem LpMv.set {n1 : Nat} {X : World} {b : Nat} {cs : Array Value} {f : Nat × Nat} (h1 : n1 ≤ b) (hb : X.heap[b]? = some (.cells cs 47 f)) (j : Nat) (u : Value) : LpMv n1 X (X.setCell ⟨b, j, none⟩ u) :=
  ⟨some b, ⟨rfl, rfl, rfl, by simp, fun i _ hi => Below.heap_setCell X ⟨b, j, none⟩ u i (fun e => hi (by rw [e]))⟩, fun r e => by cases e; exact ⟨h1, cs, f, hb⟩⟩
def lpEnc (x : ByteArray × Bool) : Array Value := #[.agg #[.string x.1, .bool x.2]]
def LpRel (w0 : World) (names : List ByteArray) (pre delim after : ByteArray) (A : Option Addr) (c : Nat) (es : List (ByteArray × Bool)) (Ba Bn Bp Bd L : Nat) (J : List (ByteArray × Bool) → World → Prop) (k : Nat) (wr : World) : Prop :=
  ∃ (pre' rest : List (ByteArray × Bool)) (last : ByteArray × Bool), k ≤ names.length ∧ lpEnts pre delim after (names.drop k) last = some rest ∧ es = pre' ++ rest ∧ J pre' wr ∧
    LpEnt w0 A names.length c Ba Bn Bp Bd pre delim after wr ∧ wr.heap[L]? = some (.cells #[.string last.1, .bool last.2] 47 (0, 0))
set_option maxHeartbeats 4000000 in
set_option maxRecDepth 100000 in
theorem entries_iter (n : Nat) (w0 : World) (names : List ByteArray) (pre delim after : ByteArray) (A : Option Addr) (c : Nat) (hC : Kd.C Kd.string w0 A names.length names) (hc : names.length ≤ c)
    (es : List (ByteArray × Bool)) (hes : lpEnts pre delim after names (after, false) = some es) (Ba Bn Bp Bd : Nat) (W : World) (hE : LpEnt w0 A names.length c Ba Bn Bp Bd pre delim after W) :
    Go.Proofs.Ytbhmffbpbicilaa.RangeM.Iter Fence.wide n Try.prog 25 #[.pointer (some ⟨Ba, 0, none⟩), .pointer (some ⟨Bn, 0, none⟩), .pointer (some ⟨Bp, 0, none⟩), .pointer (some ⟨Bd, 0, none⟩)] lpEnc
      (LpMv W.heap.size) (LpKp w0.heap.size [Ba, Bn, Bp, Bd]) (fun xs => xs = es) (fun p => p <+: es) W := by
  intro l J Jx hJ hJx hY h0
  refine callsIn_of_wp Try.func25 rfl trivial ?_ rfl
  simp only [Try.ntmps25, List.size_toArray, List.length_cons, List.length_nil, Nat.reduceAdd, Nat.reduceSub, Array.replicate_succ, Array.replicate_zero, List.push_toArray, List.append_toArray, List.nil_append, List.cons_append]
  have cA := blk_cell hE.2.1 0
  have cN := blk_cell hE.2.2.1 0
  have cP := blk_cell hE.2.2.2.1 0
  have cD := blk_cell hE.2.2.2.2 0
  simp at cA cN cP cD
  have lA := blk_lt hE.2.1
  have lN := blk_lt hE.2.2.1
  have lP := blk_lt hE.2.2.2.1
  have lD := blk_lt hE.2.2.2.2
  gi_wp2
  gi_loopw [14] (fun i wr => ∃ k : Nat, i = .int .i64 k ∧ LpRel w0 names pre delim after A c es Ba Bn Bp Bd W.heap.size J k wr) (fun i _ => names.length - (intOf i).toNat)
  case atStart =>
    refine ⟨0, rfl, [], es, (after, false), Nat.zero_le _, by simpa using hes, rfl, hJ _ _ _ h0 (LpMv.alloc _ _ _), hE.move (hE.1.size) (LpMv.alloc _ _ _), by simpa using heap_alloc_new W _⟩
  case round =>
    obtain ⟨k, rfl, pre', rest, last, hk, hr0, hes', hJ1, hE1, hL⟩ := hrel
    have hr := Aside0.mk hr0
    have hx := Aside0.mk hes'
    clear hr0 hes' hes
    have cA1 := blk_cell hE1.2.1 0
    have cN1 := blk_cell hE1.2.2.1 0
    have cP1 := blk_cell hE1.2.2.2.1 0
    have cD1 := blk_cell hE1.2.2.2.2 0
    simp at cA1 cN1 cP1 cD1
    have lA1 := blk_lt hE1.2.1
    have lN1 := blk_lt hE1.2.2.1
    have lP1 := blk_lt hE1.2.2.2.1
    have lD1 := blk_lt hE1.2.2.2.2
    have hlL := blk_lt hL
    clear cA cN cP cD
    have hmx := hC.2.1
    by_cases hlt : k < names.length
    · have hd : names.drop k = rdOf ByteArray.empty names k :: names.drop (k + 1) := by
        rw [List.drop_eq_getElem_cons hlt]
        congr 1
        simp [rdOf, List.getD_eq_getElem?_getD, hlt]
      have hr1 := hr.out
      rw [hd] at hr1
      simp only [lpEnts] at hr1
      obtain ⟨hp, hhp0, hr2⟩ := Option.bind_eq_some_iff.1 hr1
      have hhp := Aside0.mk hhp0
      clear hhp0 hr1 hr hd
      have hC1 := Kd.C_below hC hE1.1
      obtain ⟨ad, hA, hcell⟩ := Kd.at_string hC1 (k : Int) (by omega) (by omega)
      subst hA
      rw [Int.toNat_natCast] at hcell
      have hlim : (ad.add k).block < wr.heap.size := World.block_lt_of_cell? _ _ hcell
      cases hp with
      | false =>
        have hr3 : lpEnts pre delim after (names.drop (k + 1)) last = some rest := by simpa using hr2
        have hr4 := Aside0.mk hr3
        clear hr2 hr3
        gi_wp2_with (refine ⟨trivial, fun h_ => absurd h_ (by simp [Fence.wide]), ?_⟩; (with_reducible refine (callsIn_wide.2 (strings_HasPrefix.calls _ _ false _ hhp.out)).mono ?_); rintro e w' ⟨rfl, ⟨nd, rfl⟩⟩)
        go_roundw
        case rel => exact ⟨k + 1, by go_num, pre', rest, last, by omega, hr4.out, hx.out, hJ _ _ _ hJ1 (LpMv.drewN _ _ _), hE1.move hE.1.size (LpMv.drewN _ _ _), hL⟩
        case measure => simp [intOf]; omega
      | true =>
        rw [if_pos rfl] at hr2
        obtain ⟨⟨x1, x2⟩, hx0, hr3⟩ := Option.bind_eq_some_iff.1 hr2
        have hof := Aside0.mk hx0
        clear hx0 hr2
        gi_wp2_with (refine ⟨trivial, fun h_ => absurd h_ (by simp [Fence.wide]), ?_⟩; (with_reducible refine (callsIn_wide.2 (strings_HasPrefix.calls _ _ true _ hhp.out)).mono ?_); rintro e w' ⟨rfl, ⟨nd, rfl⟩⟩)
        refine ⟨trivial, fun h_ => absurd h_ (by simp [Fence.wide]), ?_⟩
        with_reducible refine (callsIn_wide.2 (listing_of.calls _ _ _ _ _ _ hof.out)).mono ?_
        rintro e w2 ⟨rfl, hw2⟩
        have mv2 : LpMv W.heap.size wr w2 := ⟨none, World.grownBy.trans (b := wr.drewN nd) ⟨rfl, rfl, rfl, Nat.le_refl _, fun _ _ _ => rfl⟩ (grown_of_below hw2 none), fun r e => by cases e⟩
        have hJ2 := hJ _ _ _ hJ1 mv2
        have hE2 := hE1.move hE.1.size mv2
        have hL2 : w2.heap[W.heap.size]? = some (.cells #[.string last.1, .bool last.2] 47 (0, 0)) := (hw2.block _ hlL).trans hL
        have cA2 := blk_cell hE2.2.1 0
        have cN2 := blk_cell hE2.2.2.1 0
        have cP2 := blk_cell hE2.2.2.2.1 0
        have cD2 := blk_cell hE2.2.2.2.2 0
        have cL2 := blk_cell hL2 0
        have cM2 := blk_cell hL2 1
        simp at cA2 cN2 cP2 cD2 cL2 cM2
        have lA2 := blk_lt hE2.2.1
        have lN2 := blk_lt hE2.2.2.1
        have lP2 := blk_lt hE2.2.2.2.1
        have lD2 := blk_lt hE2.2.2.2.2
        have lL2 := blk_lt hL2
        clear cA1 cN1 cP1 cD1 hcell
        have fL0 := blk_frozen hL2 0
        have fL1 := blk_frozen hL2 1
        have mv3 : LpMv W.heap.size w2 (w2.alloc (.cells #[.string x1, .bool x2] 47)) := LpMv.alloc _ _ _
        have hJ3 := hJ _ _ _ hJ2 mv3
        have hE3 := hE2.move hE.1.size mv3
        have hL3 : (w2.alloc (.cells #[.string x1, .bool x2] 47)).heap[W.heap.size]? = some (.cells #[.string last.1, .bool last.2] 47 (0, 0)) := by
          simpa using (Below.heap_alloc w2 (.cells #[.string x1, .bool x2] 47) _ lL2).trans hL2
        by_cases hb : (Op.bytesLess x1.toList after.toList || x1.toList == after.toList) = true
        · rw [if_pos hb] at hr3
          have hr4 := Aside0.mk hr3
          clear hr3
          gi_wp2
          go_roundw
          case rel => exact ⟨k + 1, by go_num, pre', rest, last, by omega, hr4.out, hx.out, hJ3, hE3, hL3⟩
          case measure => simp [intOf]; omega
        · rw [if_neg hb] at hr3
          have hb1 : (Op.bytesLess x1.toList after.toList || x1.toList == after.toList) = false := by simpa using hb
          clear hb
          by_cases he : lpSame x1 last.1 x2 last.2 = true
          · rw [if_pos he] at hr3
            have hr4 := Aside0.mk hr3
            clear hr3
            gi_wp2
            go_roundw
            case rel => exact ⟨k + 1, by go_num, pre', rest, last, by omega, hr4.out, hx.out, hJ3, hE3, hL3⟩
            case measure => simp [intOf]; omega
          · rw [if_neg he] at hr3
            have he1 : lpSame x1 last.1 x2 last.2 = false := by simpa using he
            clear he
            obtain ⟨rest', hr4', hr5⟩ := Option.map_eq_some_iff.1 hr3
            subst hr5
            have hr4 := Aside0.mk hr4'
            clear hr4' hr3
            have m1 : LpMv W.heap.size w2 (w2.setCell ⟨W.heap.size, 0, none⟩ (.string x1)) := LpMv.set (Nat.le_refl _) hL2 0 _
            have b1 := blk_set hL2 0 (.string x1)
            have m2 : LpMv W.heap.size _ ((w2.setCell ⟨W.heap.size, 0, none⟩ (.string x1)).setCell ⟨W.heap.size, 1, none⟩ (.bool x2)) := LpMv.set (Nat.le_refl _) b1 1 _
            have b2 := blk_set b1 1 (.bool x2)
            have m3 : LpMv W.heap.size _ (((w2.setCell ⟨W.heap.size, 0, none⟩ (.string x1)).setCell ⟨W.heap.size, 1, none⟩ (.bool x2)).alloc (.cells #[.string x1, .bool x2] 47)) := LpMv.alloc _ _ _
            have b3 : (((w2.setCell ⟨W.heap.size, 0, none⟩ (.string x1)).setCell ⟨W.heap.size, 1, none⟩ (.bool x2)).alloc (.cells #[.string x1, .bool x2] 47)).heap[W.heap.size]? = some (.cells #[.string x1, .bool x2] 47 (0, 0)) :=
              (Below.heap_alloc _ _ _ (by simpa using lL2)).trans b2
            have hJ5 := hJ _ _ _ (hJ _ _ _ (hJ _ _ _ hJ2 m1) m2) m3
            have hE5 := ((hE2.move hE.1.size m1).move hE.1.size m2).move hE.1.size m3
            obtain ⟨fn, tmps, assign, body, hy, hR⟩ := hY pre' (x1, x2) _ hJ5
            simp only [lpEnc] at hy
            clear b1 b2 m1 m2 m3 hJ5
            gi_wp2
            refine ⟨fun h_ => absurd h_ (by simp [Fence.wide]), hR.mono ?_⟩
            rintro e W4 (⟨rfl, hJ6, hk6⟩ | ⟨rfl, hJx6⟩)
            · have hE6 := hE5.kept hk6
              have hL6 := hk6.2 _ _ _ _ b3 (.inr rfl)
              gi_wp2
              go_roundw
              case rel => exact ⟨k + 1, by go_num, pre' ++ [(x1, x2)], rest', (x1, x2), by omega, hr4.out, by rw [hx.out]; simp, hJ6, hE6, hL6⟩
              case measure => simp [intOf]; omega
            · gi_wp2
              refine bodyPost_ret (results_none rfl _ _ _) rfl ?_
              exact ⟨⟨_, rfl⟩, .inr ⟨pre' ++ [(x1, x2)], ⟨rest', by rw [hx.out]; simp⟩, hJx6⟩⟩
    · gi_wp2
      go_end0
      have hk2 : k = names.length := by omega
      subst hk2
      have h1 := hr.out
      simp [lpEnts] at h1
      subst h1
      have h2 := hx.out
      rw [List.append_nil] at h2
      exact ⟨⟨_, rfl⟩, .inl ⟨pre', h2.symm, hJ1⟩⟩
set_option maxHeartbeats 4000000 in
set_option maxRecDepth 100000 in
theorem entries_calls (A : Option Addr) (n c : Nat) (a1 a2 a3 : ByteArray) (w : World) :
    Calls Try.prog 20 #[.slice A n c, .string a1, .string a2, .string a3] w fun e w' =>
      e = .returned (.func (.func 25) #[] #[.pointer (some ⟨w.heap.size + 1 + 1 + 1, 0, none⟩), .pointer (some ⟨w.heap.size, 0, none⟩), .pointer (some ⟨w.heap.size + 1, 0, none⟩), .pointer (some ⟨w.heap.size + 1 + 1, 0, none⟩)]) ∧
        (((w.alloc (Obj.cells #[.slice A n c] 22)).alloc (Obj.cells #[.string a1] 9)).alloc (Obj.cells #[.string a2] 9)).alloc (Obj.cells #[.string a3] 9) = w' := by
  go_enter Try.func20, Try.ntmps20
  go_wp2
  go_ret
  exact ⟨rfl, rfl⟩
/-! #### what a caller's loop says between two rounds -/
/-- What is cells of other types than an entry's stays. -/
def Lp47 (n0 : Nat) (X Y : World) : Prop := Below n0 X Y ∧ X.heap.size ≤ Y.heap.size ∧ ∀ (b : Nat) (cs : Array Value) (t : TypeId) (f : Nat × Nat), t ≠ 47 → X.heap[b]? = some (.cells cs t f) → Y.heap[b]? = some (.cells cs t f)
theorem Lp47.mv {n0 n1 : Nat} {X Y : World} (h0 : n0 ≤ n1) (h1 : n0 ≤ X.heap.size) (h : LpMv n1 X Y) : Lp47 n0 X Y := by
  obtain ⟨row, hg, hr⟩ := h
  refine ⟨(Below.refl _ _).grown hg h1 (fun k e => Nat.le_trans h0 (hr k e).1), hg.size, fun b cs t f ht hb => ?_⟩
  refine blk_grown hb hg ?_
  rintro rfl
  obtain ⟨_, cs', f', hb'⟩ := hr b rfl
  rw [hb] at hb'
  injection hb' with hb'
  injection hb' with _ ht2 _
  exact ht ht2
theorem Lp47.alloc {n0 : Nat} (X : World) (h1 : n0 ≤ X.heap.size) (o : Obj) : Lp47 n0 X (X.alloc o) :=
  ⟨(Below.refl _ _).alloc h1 o, by simp, fun b cs t f _ hb => (Below.heap_alloc _ _ _ (blk_lt hb)).trans hb⟩
theorem Lp47.turn {n0 k : Nat} {X : World} {r : Loop} (h1 : n0 ≤ k) (hk : X.heap[k]? = some (.loop r)) (o : Obj) : Lp47 n0 X (X.putObj k o) := by
  refine ⟨(Below.refl n0 X).grown (grownBy_putObj' X k o) (by have := blk_lt hk; omega) (fun j e => by cases e; exact h1), by simp, fun b cs t f _ hb => ?_⟩
  rw [World.putObj_heap_other (by rintro rfl; rw [hk] at hb; cases hb)]
  exact hb
/-- A store into a block of other cells. -/
theorem Lp47.own {n0 : Nat} {X Y : World} {e : TypeId} {b0 size n : Nat} {v : Value} {xs : List Value} (h : Lp47 n0 X Y) (ho : X.ownsRow b0 e size v n xs) (he : e ≠ 47) : Y.ownsRow b0 e size v n xs :=
  own_move ho (fun k hk => by
    obtain ⟨cells, hc⟩ := own_typed ho k hk
    rw [hc]
    exact h.2.2 _ _ _ _ he hc)
/-- Two rows are none of each other. -/
def LpSep (u v : Value) : Prop := ∀ k, u.ownBlock = some k → v.ownBlock ≠ some k
/-- The state of the loop's variables. -/
structure LpSt (w : World) (A : Option Addr) (n c : Nat) (a1 a2 a3 : ByteArray) (a4 : Int) (S n1 : Nat) (ns ps : List ByteArray) (next : ByteArray) (more : Bool) (cnt : Nat) (last : ByteArray) (vN vP : Value) (W : World) : Prop where
  size : n1 ≤ W.heap.size
  ent : LpEnt w A n c (S + 1 + 1 + 1 + 1 + 1 + 1) (S + 1 + 1 + 1) (S + 1 + 1 + 1 + 1) (S + 1 + 1 + 1 + 1 + 1) a1 a2 a3 W
  most : W.heap[w.heap.size]? = some (.cells #[.int .i64 a4] 3 (0, 0))
  res : W.heap[w.heap.size + 1]? = some (.cells #[.slice none 0 0, .slice none 0 0, .string ⟨#[]⟩, .bool false] 26 (0, 0))
  out : W.heap[S]? = some (.cells #[vN, vP, .string next, .bool more] 26 (0, 0))
  num : W.heap[S + 1]? = some (.cells #[.int .i64 (cnt : Int)] 3 (0, 0))
  last : W.heap[S + 1 + 1]? = some (.cells #[.string last] 9 (0, 0))
  rowN : W.ownsRow n1 9 1 vN ns.length (pw_strs ns)
  rowP : W.ownsRow n1 9 1 vP ps.length (pw_strs ps)
  sep : LpSep vN vP
theorem LpSt.kept {w : World} {A : Option Addr} {n c : Nat} {a1 a2 a3 : ByteArray} {a4 : Int} {S n1 : Nat} {ns ps : List ByteArray} {next : ByteArray} {more : Bool} {cnt : Nat} {last : ByteArray} {vN vP : Value} {X Y : World}
    (h : LpSt w A n c a1 a2 a3 a4 S n1 ns ps next more cnt last vN vP X) (k : Lp47 w.heap.size X Y) : LpSt w A n c a1 a2 a3 a4 S n1 ns ps next more cnt last vN vP Y where
  size := Nat.le_trans h.size k.2.1
  ent := ⟨h.ent.1.trans k.1, k.2.2 _ _ _ _ (by decide) h.ent.2.1, k.2.2 _ _ _ _ (by decide) h.ent.2.2.1, k.2.2 _ _ _ _ (by decide) h.ent.2.2.2.1, k.2.2 _ _ _ _ (by decide) h.ent.2.2.2.2⟩
  most := k.2.2 _ _ _ _ (by decide) h.most
  res := k.2.2 _ _ _ _ (by decide) h.res
  out := k.2.2 _ _ _ _ (by decide) h.out
  num := k.2.2 _ _ _ _ (by decide) h.num
  last := k.2.2 _ _ _ _ (by decide) h.last
  rowN := k.own h.rowN (by decide)
  rowP := k.own h.rowP (by decide)
  sep := h.sep

end Go.Proofs.Ytbhmffbpbicilaa.P
