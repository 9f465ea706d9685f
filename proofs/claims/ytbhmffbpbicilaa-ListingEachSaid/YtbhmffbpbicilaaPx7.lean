-- by xprint (this session's program over the kit's printer)
import Derived.Test.YtbhmffbpbicilaaPx0
import Derived.Test.YtbhmffbpbicilaaPx2
import Derived.Test.YtbhmffbpbicilaaPx6
import Derived.RangeFuncNested
import Derived.RangeFuncBound
import Derived.RangeFuncCalls
import Derived.RangeFuncLeaves
import Derived.Shelf.Abstract
import Derived.Shelf.RegionOpen
import Derived.OwnWalkIn
import Derived.TacticsInMore
import Derived.LoopNIn
import Derived.LoopIn
import Derived.IntWalk
import Derived.WalkSpells
import Derived.Outline
import Derived.WalkLawsBesides
import Derived.Test.YtbhmffbpbicilaaRangeM
namespace Go.Proofs.Ytbhmffbpbicilaa.P
open Go.RowKit Go.Proofs.YtbhmffbpbicilaaW.PrintWords Go.Proofs.YtbhmffbpbicilaaW.PrintLast Go.Proofs.YtbhmffbpbicilaaW.PrintMore
attribute [local go_sem] max2_int min2_int max_two min_two max_three min_three max_four min_four   -- for this text's walks alone
set_option linter.unusedVariables false
set_option linter.unusedSimpArgs false

/-! ### listing_Page: by hand -/
attribute [local go_sem] Oper.semAt_some
/-- Do texts rise? -/
def lpAsc : List ByteArray → Bool
  | [] => true
  | [_] => true
  | a :: b :: l => Op.bytesLess a.toList b.toList && lpAsc (b :: l)
def lpNames (es : List (ByteArray × Bool)) : List ByteArray := (es.filter (fun x => !x.2)).map (·.1)
def lpPrefs (es : List (ByteArray × Bool)) : List ByteArray := (es.filter (fun x => x.2)).map (·.1)
def listing_Page.f (l0 : List ByteArray) (a1 a2 a3 : ByteArray) (a4 : Int) : Option (List ByteArray × List ByteArray × ByteArray × Bool × Int) :=
  (listing_Check.f a1 a2 a3 a4).bind fun e => if e = 0 then
      (if lpAsc l0 = true then (lpEnts a1 a2 a3 l0 (a3, false)).map fun es =>
        (lpNames (es.take a4.toNat), lpPrefs (es.take a4.toNat), if a4.toNat < es.length then (es.getD (a4.toNat - 1) (⟨#[]⟩, false)).1 else ⟨#[]⟩, decide (a4.toNat < es.length), 0)
      else some ([], [], ⟨#[]⟩, false, 4))
    else some ([], [], ⟨#[]⟩, false, e)
theorem toNat_succ_ (j : Nat) : ((j : Int) + 1).toNat = j + 1 := by omega
theorem lpAsc_of (l : List ByteArray) (h : ∀ j : Nat, j + 1 < l.length → Op.bytesLess (rdOf ByteArray.empty l (j : Int)).toList (rdOf ByteArray.empty l ((j : Int) + 1)).toList = true) : lpAsc l = true := by
  induction l with
  | nil => rfl
  | cons a l ih =>
    cases l with
    | nil => rfl
    | cons b l =>
      have h0 := h 0 (by simp)
      have h1 := ih (fun j hj => by
        have := h (j + 1) (by simpa using hj)
        simp only [rdOf, Int.toNat_natCast, toNat_succ_] at this ⊢
        simpa using this)
      unfold lpAsc
      rw [h1, Bool.and_true]
      simpa [rdOf] using h0
theorem lpAsc_not (l : List ByteArray) (j : Nat) (hj : j + 1 < l.length) (h : Op.bytesLess (rdOf ByteArray.empty l (j : Int)).toList (rdOf ByteArray.empty l ((j : Int) + 1)).toList = false) : lpAsc l = false := by
  induction l generalizing j with
  | nil => simp at hj
  | cons a l ih =>
    cases l with
    | nil => simp at hj
    | cons b l =>
      unfold lpAsc
      cases j with
      | zero =>
        have : Op.bytesLess a.toList b.toList = false := by simpa [rdOf] using h
        rw [this, Bool.false_and]
      | succ j =>
        rw [ih j (by simpa using hj) (by simp only [rdOf, Int.toNat_natCast, toNat_succ_] at h ⊢; simpa using h), Bool.and_false]
/-- What is left to be told when the names rise. -/
def LpGoal (l0 : List ByteArray) (a1 a2 a3 : ByteArray) (a4 : Int) (r1 r2 : List ByteArray) (r3 : ByteArray) (r4 : Bool) (r5 : Int) : Prop :=
  (if lpAsc l0 = true then (lpEnts a1 a2 a3 l0 (a3, false)).map fun es =>
        (lpNames (es.take a4.toNat), lpPrefs (es.take a4.toNat), if a4.toNat < es.length then (es.getD (a4.toNat - 1) (⟨#[]⟩, false)).1 else ⟨#[]⟩, decide (a4.toNat < es.length), 0)
      else some ([], [], ⟨#[]⟩, false, 4)) = some (r1, r2, r3, r4, (r5 : Int))
def LpRose (l0 : List ByteArray) (k : Nat) : Prop := ∀ j : Nat, j + 1 < k → Op.bytesLess (rdOf ByteArray.empty l0 (j : Int)).toList (rdOf ByteArray.empty l0 ((j : Int) + 1)).toList = true
theorem lpCheck_ok {a1 a2 a3 : ByteArray} {a4 : Int} (h : listing_Check.f a1 a2 a3 a4 = some 0) : 1 ≤ a4 ∧ a4 ≤ 50 := by
  unfold listing_Check.f at h
  repeat' split at h
  all_goals first | (simp at h; done) | skip
  all_goals omega
def lpLast (pre : List (ByteArray × Bool)) : ByteArray := (pre.getLast?.map (·.1)).getD ⟨#[]⟩
theorem up_ {X : World} {k : Nat} {o' : Obj} (h : X.heap[k]? = some o') (o : Obj) : (X.alloc o).heap[k]? = some o' := (Below.heap_alloc _ _ _ (blk_lt h)).trans h
theorem new_ (X : World) (o : Obj) {k : Nat} (hk : X.heap.size = k) : (X.alloc o).heap[k]? = some o := by rw [← hk]; exact World.alloc_heap_new X o
/-- The variables as the loop begins. -/
theorem lpStart (w X : World) (A : Option Addr) (n c : Nat) (a1 a2 a3 : ByteArray) (a4 : Int) (hB : Below w.heap.size w X) (hM : X.heap[w.heap.size]? = some (.cells #[.int .i64 a4] 3 (0, 0)))
    (hO : X.heap[w.heap.size + 1]? = some (.cells #[.slice none 0 0, .slice none 0 0, .string ⟨#[]⟩, .bool false] 26 (0, 0))) :
    LpSt w A n c a1 a2 a3 a4 X.heap.size (X.heap.size + 7) [] [] ⟨#[]⟩ false 0 ⟨#[]⟩ (.slice none 0 0) (.slice none 0 0)
      (((((((X.alloc (.cells #[.slice none 0 0, .slice none 0 0, .string ⟨#[]⟩, .bool false] 26)).alloc (.cells #[.int .i64 0] 3)).alloc (.cells #[.string ⟨#[]⟩] 9)).alloc (.cells #[.slice A n c] 22)).alloc (.cells #[.string a1] 9)).alloc (.cells #[.string a2] 9)).alloc (.cells #[.string a3] 9)) where
  size := by simp
  ent := ⟨below_alloc (below_alloc (below_alloc (below_alloc (below_alloc (below_alloc (below_alloc hB _) _) _) _) _) _) _, new_ _ _ (by simp), up_ (up_ (up_ (new_ _ _ (by simp)) _) _) _, up_ (up_ (new_ _ _ (by simp)) _) _, up_ (new_ _ _ (by simp)) _⟩
  most := up_ (up_ (up_ (up_ (up_ (up_ (up_ hM _) _) _) _) _) _) _
  res := up_ (up_ (up_ (up_ (up_ (up_ (up_ hO _) _) _) _) _) _) _
  out := up_ (up_ (up_ (up_ (up_ (up_ (new_ _ _ rfl) _) _) _) _) _) _
  num := up_ (up_ (up_ (up_ (up_ (new_ _ _ (by simp)) _) _) _) _) _
  last := up_ (up_ (up_ (up_ (new_ _ _ (by simp)) _) _) _) _
  rowN := World.ownsRow_nil _ _ _ _
  rowP := World.ownsRow_nil _ _ _ _
  sep := fun k hk => by simp [Value.ownBlock] at hk
/-- What a call of Page tells. -/
def LpPost (r1 r2 : List ByteArray) (r3 : ByteArray) (r4 : Bool) (r5 : Int) (w : World) (e : Ending) (w' : World) : Prop :=
  ∃ v0_ v1_ : Value, e = .returned (.tuple #[.agg #[v0_, v1_, .string r3, .bool r4], .int .i64 r5]) ∧ Kd.R Kd.string 9 w' w.heap.size (fun k_ => some k_ ≠ (v1_ : Value).ownBlock) v0_ r1 ∧ Kd.R Kd.string 9 w' w.heap.size (fun k_ => some k_ ≠ (v0_ : Value).ownBlock) v1_ r2 ∧ Below w.heap.size w w'
def LpI (w : World) (A : Option Addr) (n c : Nat) (a1 a2 a3 : ByteArray) (a4 : Int) (S : Nat) (pre : List (ByteArray × Bool)) (W : World) : Prop :=
  ∃ vN vP, LpSt w A n c a1 a2 a3 a4 S (S + 7) (lpNames pre) (lpPrefs pre) ⟨#[]⟩ false pre.length (lpLast pre) vN vP W ∧ pre.length ≤ a4.toNat
def LpIx (w : World) (A : Option Addr) (n c : Nat) (a1 a2 a3 : ByteArray) (a4 : Int) (S : Nat) (cd : Code) (pre : List (ByteArray × Bool)) (W : World) : Prop :=
  cd = .exit 2 ∧ ∃ vN vP pre0 x, pre = pre0 ++ [x] ∧ pre0.length = a4.toNat ∧ LpSt w A n c a1 a2 a3 a4 S (S + 7) (lpNames pre0) (lpPrefs pre0) (lpLast pre0) true pre0.length (lpLast pre0) vN vP W
theorem LpI.size {w : World} {A : Option Addr} {n c : Nat} {a1 a2 a3 : ByteArray} {a4 : Int} {S : Nat} {pre : List (ByteArray × Bool)} {W : World} (h : LpI w A n c a1 a2 a3 a4 S pre W) : S + 7 ≤ W.heap.size := by
  obtain ⟨_, _, h, _⟩ := h
  exact h.size
theorem LpIx.size {w : World} {A : Option Addr} {n c : Nat} {a1 a2 a3 : ByteArray} {a4 : Int} {S : Nat} {cd : Code} {pre : List (ByteArray × Bool)} {W : World} (h : LpIx w A n c a1 a2 a3 a4 S cd pre W) : S + 7 ≤ W.heap.size := by
  obtain ⟨_, _, _, _, _, _, _, h⟩ := h
  exact h.size
theorem LpI.kept {w : World} {A : Option Addr} {n c : Nat} {a1 a2 a3 : ByteArray} {a4 : Int} {S : Nat} {pre : List (ByteArray × Bool)} {X Y : World} (h : LpI w A n c a1 a2 a3 a4 S pre X) (k : Lp47 w.heap.size X Y) : LpI w A n c a1 a2 a3 a4 S pre Y := by
  obtain ⟨vN, vP, h, hl⟩ := h
  exact ⟨vN, vP, h.kept k, hl⟩
theorem LpIx.kept {w : World} {A : Option Addr} {n c : Nat} {a1 a2 a3 : ByteArray} {a4 : Int} {S : Nat} {cd : Code} {pre : List (ByteArray × Bool)} {X Y : World} (h : LpIx w A n c a1 a2 a3 a4 S cd pre X) (k : Lp47 w.heap.size X Y) : LpIx w A n c a1 a2 a3 a4 S cd pre Y := by
  obtain ⟨e, vN, vP, p0, x, h1, h2, h⟩ := h
  exact ⟨e, vN, vP, p0, x, h1, h2, h.kept k⟩
theorem Lp47.below {n0 : Nat} {X Y : World} (h0 : n0 ≤ X.heap.size) (h : Below X.heap.size X Y) : Lp47 n0 X Y := ⟨h.mono h0, h.size, fun _ _ _ _ _ hb => (h.block _ (blk_lt hb)).trans hb⟩
theorem LpMv.stay {n1 : Nat} {X Y : World} (h : LpMv n1 X Y) {k : Nat} {o : Obj} (hk : k < n1) (hb : X.heap[k]? = some o) : Y.heap[k]? = some o := by
  obtain ⟨row, hg, hr⟩ := h
  exact blk_grown hb hg (by rintro rfl; have := (hr k rfl).1; omega)
theorem LpKp.trans {n0 : Nat} {S : List Nat} {X Y Z : World} (h : LpKp n0 S X Y) (k : LpKp n0 S Y Z) : LpKp n0 S X Z := ⟨Below.trans h.1 k.1, fun b cs t f hb hc => k.2 b cs t f (h.2 b cs t f hb hc) hc⟩
theorem LpKp.turn {n0 k : Nat} {S : List Nat} {X : World} {r : Loop} (h1 : n0 ≤ k) (hk : X.heap[k]? = some (.loop r)) (o : Obj) : LpKp n0 S X (X.putObj k o) := by
  refine ⟨(Below.refl n0 X).grown (grownBy_putObj' X k o) (by have := blk_lt hk; omega) (fun j e => by cases e; exact h1), fun b cs t f hb _ => ?_⟩
  rw [World.putObj_heap_other (by rintro rfl; rw [hk] at hb; cases hb)]
  exact hb
theorem LpKp.alloc {n0 : Nat} {S : List Nat} (X : World) (h1 : n0 ≤ X.heap.size) (o : Obj) : LpKp n0 S X (X.alloc o) :=
  ⟨(Below.refl _ _).alloc h1 o, fun b cs t f hb _ => (Below.heap_alloc _ _ _ (blk_lt hb)).trans hb⟩
theorem Lp47.turnAny {k b : Nat} {X : World} {r : Loop} {cs : Array Value} {t : TypeId} {f : Nat × Nat} (hk : X.heap[k]? = some (.loop r)) (o : Obj) (hb : X.heap[b]? = some (.cells cs t f)) : (X.putObj k o).heap[b]? = some (.cells cs t f) := by
  rw [World.putObj_heap_other (by rintro rfl; rw [hk] at hb; cases hb)]
  exact hb
theorem lpThru {S b j : Nat} {W w1 : World} {u v' x : Value} {row : Option Nat} {o : Obj} (hb : W.heap[b]? = some o) (h1 : b ≠ S + 1) (hg : (W.setCell ⟨S + 1, 0, none⟩ u).grownBy w1 row) (h2 : some b ≠ row) (h3 : b ≠ S) (h4 : b ≠ S + 1 + 1) :
    ((w1.setCell ⟨S, j, none⟩ v').setCell ⟨S + 1 + 1, 0, none⟩ x).heap[b]? = some o := by
  rw [Below.heap_setCell _ _ _ b (by simpa using h4), Below.heap_setCell _ _ _ b (by simpa using h3)]
  refine blk_grown ?_ hg h2
  rw [Below.heap_setCell _ _ _ b (by simpa using h1)]
  exact hb
theorem lpPushP {w : World} {A : Option Addr} {n c : Nat} {a1 a2 a3 : ByteArray} {a4 : Int} {S : Nat} {ns ps : List ByteArray} {cnt : Nat} {last : ByteArray} {vN vP : Value} {W : World}
    (hst : LpSt w A n c a1 a2 a3 a4 S (S + 7) ns ps ⟨#[]⟩ false cnt last vN vP W) (hS : w.heap.size + 1 < S) {x1 : ByteArray} {v' : Value} {w1 : World}
    (hown : w1.ownsRow (S + 7) 9 1 v' ((pw_strs ps).length + 1) (pw_strs ps ++ [.string x1])) (hg : (W.setCell ⟨S + 1, 0, none⟩ (.int .i64 ((cnt : Int) + 1))).grownBy w1 vP.ownBlock)
    (hat : v'.ownBlock = vP.ownBlock ∨ ∃ b, v'.ownBlock = some b ∧ (W.setCell ⟨S + 1, 0, none⟩ (.int .i64 ((cnt : Int) + 1))).heap.size ≤ b) :
    KeepsFrom (S + 7) W ((w1.setCell ⟨S, 1, none⟩ v').setCell ⟨S + 1 + 1, 0, none⟩ (.string x1)) ∧
    LpKp w.heap.size [S + 1 + 1 + 1 + 1 + 1 + 1, S + 1 + 1 + 1, S + 1 + 1 + 1 + 1, S + 1 + 1 + 1 + 1 + 1] W ((w1.setCell ⟨S, 1, none⟩ v').setCell ⟨S + 1 + 1, 0, none⟩ (.string x1)) ∧
    LpSt w A n c a1 a2 a3 a4 S (S + 7) ns (ps ++ [x1]) ⟨#[]⟩ false (cnt + 1) x1 vN v' ((w1.setCell ⟨S, 1, none⟩ v').setCell ⟨S + 1 + 1, 0, none⟩ (.string x1)) := by
  have hsz := hst.size
  have hb : ∀ k, vP.ownBlock = some k → S + 7 ≤ k := fun k hk => own_base hst.rowP k hk
  have hlow : ∀ {b : Nat} {o : Obj}, W.heap[b]? = some o → b < S + 7 → b ≠ S → b ≠ S + 1 → b ≠ S + 1 + 1 → ((w1.setCell ⟨S, 1, none⟩ v').setCell ⟨S + 1 + 1, 0, none⟩ (.string x1)).heap[b]? = some o :=
    fun h1 h2 h3 h4 h5 => lpThru h1 h4 hg (fun e => by have := hb _ e.symm; omega) h3 h5
  have hty : ∀ {b t : Nat} {cs : Array Value} {f : Nat × Nat}, W.heap[b]? = some (.cells cs t f) → t ≠ 9 → some b ≠ vP.ownBlock := by
    intro b t cs f h1 h2 e
    obtain ⟨cells, hc⟩ := own_typed hst.rowP b e.symm
    rw [h1] at hc
    injection hc with hc
    injection hc with _ hc _
    exact h2 hc
  have hB : Below w.heap.size W ((w1.setCell ⟨S, 1, none⟩ v').setCell ⟨S + 1 + 1, 0, none⟩ (.string x1)) :=
    ((((Below.refl w.heap.size W).setCell (p := ⟨S + 1, 0, none⟩) (by simp; omega) _).grown hg (by simp; omega) (fun k hk => by have := hb k hk; omega)).setCell (p := ⟨S, 1, none⟩) (by simp; omega) _).setCell (p := ⟨S + 1 + 1, 0, none⟩) (by simp; omega) _
  have hKp : LpKp w.heap.size [S + 1 + 1 + 1 + 1 + 1 + 1, S + 1 + 1 + 1, S + 1 + 1 + 1 + 1, S + 1 + 1 + 1 + 1 + 1] W ((w1.setCell ⟨S, 1, none⟩ v').setCell ⟨S + 1 + 1, 0, none⟩ (.string x1)) := by
    refine ⟨hB, fun b cs t f h1 h2 => ?_⟩
    rcases h2 with h2 | h2
    · simp only [List.mem_cons, List.not_mem_nil, or_false] at h2
      exact hlow h1 (by omega) (by omega) (by omega) (by omega)
    · subst h2
      have e1 : b ≠ S := by rintro rfl; rw [hst.out] at h1; cases h1
      have e2 : b ≠ S + 1 := by rintro rfl; rw [hst.num] at h1; cases h1
      have e3 : b ≠ S + 1 + 1 := by rintro rfl; rw [hst.last] at h1; cases h1
      exact lpThru h1 e2 hg (hty h1 (by decide)) e1 e3
  refine ⟨⟨hB.size, fun k o hk h1 h2 => ?_⟩, hKp, ?_⟩
  · refine lpThru h1 (by omega) hg (fun e => ?_) (by omega) (by omega)
    obtain ⟨cells, hc⟩ := own_typed hst.rowP k e.symm
    rw [h1] at hc
    cases hc
    cases h2
  · have o1 : w1.heap[S]? = some (.cells #[vN, vP, .string ⟨#[]⟩, .bool false] 26 (0, 0)) := blk_grown (blk_far hst.out (p := ⟨S + 1, 0, none⟩) (by simp) _) hg (fun e => by have := hb _ e.symm; omega)
    have o2 := blk_far (blk_set o1 1 v') (p := ⟨S + 1 + 1, 0, none⟩) (show S ≠ S + 1 + 1 by omega) (.string x1)
    have l1 : (w1.setCell ⟨S, 1, none⟩ v').heap[S + 1 + 1]? = some (.cells #[.string last] 9 (0, 0)) := blk_far (blk_grown (blk_far hst.last (p := ⟨S + 1, 0, none⟩) (by simp) _) hg (fun e => by have := hb _ e.symm; omega)) (by simp; omega) _
    have n1 := blk_far (blk_far (blk_grown (blk_set hst.num 0 (.int .i64 ((cnt : Int) + 1))) hg (fun e => by have := hb _ e.symm; omega)) (p := ⟨S, 1, none⟩) (by simp) v') (p := ⟨S + 1 + 1, 0, none⟩) (by simp) (.string x1)
    have l2 := blk_set l1 0 (.string x1)
    simp at o2 l2 n1
    have hne : ∀ k, v'.ownBlock = some k → S + 7 ≤ k := fun k hk => own_base hown k hk
    have ho1 : (w1.setCell ⟨S, 1, none⟩ v').ownsRow (S + 7) 9 1 v' ((pw_strs ps).length + 1) (pw_strs ps ++ [.string x1]) := own_setCell hown (fun e => by have := hne _ e.symm; simp at this; omega) _
    have ho2 := own_setCell ho1 (p := ⟨S + 1 + 1, 0, none⟩) (fun e => by have := hne _ e.symm; simp at this; omega) (.string x1)
    have hb2 : ∀ k, vN.ownBlock = some k → S + 7 ≤ k := fun k hk => own_base hst.rowN k hk
    have hq0 : (W.setCell ⟨S + 1, 0, none⟩ (.int .i64 ((cnt : Int) + 1))).ownsRow (S + 7) 9 1 vN ns.length (pw_strs ns) := own_setCell hst.rowN (fun e => absurd (show S + 7 ≤ S + 1 from hb2 _ e.symm) (by omega)) _
    have hq1 : w1.ownsRow (S + 7) 9 1 vN ns.length (pw_strs ns) := own_other hq0 hg (by
      by_cases e : vN.ownBlock = none
      · exact .inl e
      · refine .inr fun e2 => ?_
        cases e3 : vN.ownBlock with
        | none => exact e e3
        | some k => exact hst.sep k e3 (by rw [← e2, e3]))
    have hq2 := own_setCell (own_setCell hq1 (p := ⟨S, 1, none⟩) (fun e => by have := hb2 _ e.symm; simp at this; omega) v') (p := ⟨S + 1 + 1, 0, none⟩) (fun e => by have := hb2 _ e.symm; simp at this; omega) (.string x1)
    have hlt : ∀ k, vN.ownBlock = some k → k < W.heap.size := fun k hk => own_lt hst.rowN k hk
    refine ⟨Nat.le_trans hsz hB.size, hst.ent.kept hKp, hlow hst.most (by omega) (by omega) (by omega) (by omega), hlow hst.res (by omega) (by omega) (by omega) (by omega), o2, by simpa using n1, l2, hq2, by simpa [pw_strs] using ho2, ?_⟩
    intro k h1 h2
    have h3 := hlt k h1
    rcases hat with e | ⟨b, e1, e2⟩
    · exact hst.sep k h1 (by rw [← e, h2])
    · rw [e1] at h2
      cases h2
      simp at e2
      omega

theorem lpPushN {w : World} {A : Option Addr} {n c : Nat} {a1 a2 a3 : ByteArray} {a4 : Int} {S : Nat} {ns ps : List ByteArray} {cnt : Nat} {last : ByteArray} {vN vP : Value} {W : World}
    (hst : LpSt w A n c a1 a2 a3 a4 S (S + 7) ns ps ⟨#[]⟩ false cnt last vN vP W) (hS : w.heap.size + 1 < S) {x1 : ByteArray} {v' : Value} {w1 : World}
    (hown : w1.ownsRow (S + 7) 9 1 v' ((pw_strs ns).length + 1) (pw_strs ns ++ [.string x1])) (hg : (W.setCell ⟨S + 1, 0, none⟩ (.int .i64 ((cnt : Int) + 1))).grownBy w1 vN.ownBlock)
    (hat : v'.ownBlock = vN.ownBlock ∨ ∃ b, v'.ownBlock = some b ∧ (W.setCell ⟨S + 1, 0, none⟩ (.int .i64 ((cnt : Int) + 1))).heap.size ≤ b) :
    KeepsFrom (S + 7) W ((w1.setCell ⟨S, 0, none⟩ v').setCell ⟨S + 1 + 1, 0, none⟩ (.string x1)) ∧
    LpKp w.heap.size [S + 1 + 1 + 1 + 1 + 1 + 1, S + 1 + 1 + 1, S + 1 + 1 + 1 + 1, S + 1 + 1 + 1 + 1 + 1] W ((w1.setCell ⟨S, 0, none⟩ v').setCell ⟨S + 1 + 1, 0, none⟩ (.string x1)) ∧
    LpSt w A n c a1 a2 a3 a4 S (S + 7) (ns ++ [x1]) ps ⟨#[]⟩ false (cnt + 1) x1 v' vP ((w1.setCell ⟨S, 0, none⟩ v').setCell ⟨S + 1 + 1, 0, none⟩ (.string x1)) := by
  have hsz := hst.size
  have hb : ∀ k, vN.ownBlock = some k → S + 7 ≤ k := fun k hk => own_base hst.rowN k hk
  have hlow : ∀ {b : Nat} {o : Obj}, W.heap[b]? = some o → b < S + 7 → b ≠ S → b ≠ S + 1 → b ≠ S + 1 + 1 → ((w1.setCell ⟨S, 0, none⟩ v').setCell ⟨S + 1 + 1, 0, none⟩ (.string x1)).heap[b]? = some o :=
    fun h1 h2 h3 h4 h5 => lpThru h1 h4 hg (fun e => by have := hb _ e.symm; omega) h3 h5
  have hty : ∀ {b t : Nat} {cs : Array Value} {f : Nat × Nat}, W.heap[b]? = some (.cells cs t f) → t ≠ 9 → some b ≠ vN.ownBlock := by
    intro b t cs f h1 h2 e
    obtain ⟨cells, hc⟩ := own_typed hst.rowN b e.symm
    rw [h1] at hc
    injection hc with hc
    injection hc with _ hc _
    exact h2 hc
  have hB : Below w.heap.size W ((w1.setCell ⟨S, 0, none⟩ v').setCell ⟨S + 1 + 1, 0, none⟩ (.string x1)) :=
    ((((Below.refl w.heap.size W).setCell (p := ⟨S + 1, 0, none⟩) (by simp; omega) _).grown hg (by simp; omega) (fun k hk => by have := hb k hk; omega)).setCell (p := ⟨S, 0, none⟩) (by simp; omega) _).setCell (p := ⟨S + 1 + 1, 0, none⟩) (by simp; omega) _
  have hKp : LpKp w.heap.size [S + 1 + 1 + 1 + 1 + 1 + 1, S + 1 + 1 + 1, S + 1 + 1 + 1 + 1, S + 1 + 1 + 1 + 1 + 1] W ((w1.setCell ⟨S, 0, none⟩ v').setCell ⟨S + 1 + 1, 0, none⟩ (.string x1)) := by
    refine ⟨hB, fun b cs t f h1 h2 => ?_⟩
    rcases h2 with h2 | h2
    · simp only [List.mem_cons, List.not_mem_nil, or_false] at h2
      exact hlow h1 (by omega) (by omega) (by omega) (by omega)
    · subst h2
      have e1 : b ≠ S := by rintro rfl; rw [hst.out] at h1; cases h1
      have e2 : b ≠ S + 1 := by rintro rfl; rw [hst.num] at h1; cases h1
      have e3 : b ≠ S + 1 + 1 := by rintro rfl; rw [hst.last] at h1; cases h1
      exact lpThru h1 e2 hg (hty h1 (by decide)) e1 e3
  refine ⟨⟨hB.size, fun k o hk h1 h2 => ?_⟩, hKp, ?_⟩
  · refine lpThru h1 (by omega) hg (fun e => ?_) (by omega) (by omega)
    obtain ⟨cells, hc⟩ := own_typed hst.rowN k e.symm
    rw [h1] at hc
    cases hc
    cases h2
  · have o1 : w1.heap[S]? = some (.cells #[vN, vP, .string ⟨#[]⟩, .bool false] 26 (0, 0)) := blk_grown (blk_far hst.out (p := ⟨S + 1, 0, none⟩) (by simp) _) hg (fun e => by have := hb _ e.symm; omega)
    have o2 := blk_far (blk_set o1 0 v') (p := ⟨S + 1 + 1, 0, none⟩) (show S ≠ S + 1 + 1 by omega) (.string x1)
    have l1 : (w1.setCell ⟨S, 0, none⟩ v').heap[S + 1 + 1]? = some (.cells #[.string last] 9 (0, 0)) := blk_far (blk_grown (blk_far hst.last (p := ⟨S + 1, 0, none⟩) (by simp) _) hg (fun e => by have := hb _ e.symm; omega)) (by simp; omega) _
    have n1 := blk_far (blk_far (blk_grown (blk_set hst.num 0 (.int .i64 ((cnt : Int) + 1))) hg (fun e => by have := hb _ e.symm; omega)) (p := ⟨S, 0, none⟩) (by simp) v') (p := ⟨S + 1 + 1, 0, none⟩) (by simp) (.string x1)
    have l2 := blk_set l1 0 (.string x1)
    simp at o2 l2 n1
    have hne : ∀ k, v'.ownBlock = some k → S + 7 ≤ k := fun k hk => own_base hown k hk
    have ho1 : (w1.setCell ⟨S, 0, none⟩ v').ownsRow (S + 7) 9 1 v' ((pw_strs ns).length + 1) (pw_strs ns ++ [.string x1]) := own_setCell hown (fun e => by have := hne _ e.symm; simp at this; omega) _
    have ho2 := own_setCell ho1 (p := ⟨S + 1 + 1, 0, none⟩) (fun e => by have := hne _ e.symm; simp at this; omega) (.string x1)
    have hb2 : ∀ k, vP.ownBlock = some k → S + 7 ≤ k := fun k hk => own_base hst.rowP k hk
    have hq0 : (W.setCell ⟨S + 1, 0, none⟩ (.int .i64 ((cnt : Int) + 1))).ownsRow (S + 7) 9 1 vP ps.length (pw_strs ps) := own_setCell hst.rowP (fun e => absurd (show S + 7 ≤ S + 1 from hb2 _ e.symm) (by omega)) _
    have hq1 : w1.ownsRow (S + 7) 9 1 vP ps.length (pw_strs ps) := own_other hq0 hg (by
      by_cases e : vP.ownBlock = none
      · exact .inl e
      · refine .inr fun e2 => ?_
        cases e3 : vP.ownBlock with
        | none => exact e e3
        | some k => exact hst.sep k (by rw [← e2, e3]) e3)
    have hq2 := own_setCell (own_setCell hq1 (p := ⟨S, 0, none⟩) (fun e => by have := hb2 _ e.symm; simp at this; omega) v') (p := ⟨S + 1 + 1, 0, none⟩) (fun e => by have := hb2 _ e.symm; simp at this; omega) (.string x1)
    have hlt : ∀ k, vP.ownBlock = some k → k < W.heap.size := fun k hk => own_lt hst.rowP k hk
    refine ⟨Nat.le_trans hsz hB.size, hst.ent.kept hKp, hlow hst.most (by omega) (by omega) (by omega) (by omega), hlow hst.res (by omega) (by omega) (by omega) (by omega), o2, by simpa using n1, l2, by simpa [pw_strs] using ho2, hq2, ?_⟩
    intro k h1 h2
    have h3 := hlt k h2
    rcases hat with e | ⟨b, e1, e2⟩
    · exact hst.sep k (by rw [← e, h1]) h2
    · rw [e1] at h1
      cases h1
      simp at e2
      omega
theorem lpStop {w : World} {A : Option Addr} {n c : Nat} {a1 a2 a3 : ByteArray} {a4 : Int} {S : Nat} {ns ps : List ByteArray} {cnt : Nat} {last : ByteArray} {vN vP : Value} {W W2 : World}
    (hst : LpSt w A n c a1 a2 a3 a4 S (S + 7) ns ps ⟨#[]⟩ false cnt last vN vP W) (hS : w.heap.size + 1 < S) (hB : Below w.heap.size W W2) (ho : ∀ b, b ≠ S → W2.heap[b]? = W.heap[b]?)
    (hO : W2.heap[S]? = some (.cells #[vN, vP, .string last, .bool true] 26 (0, 0))) :
    KeepsFrom (S + 7) W W2 ∧ LpSt w A n c a1 a2 a3 a4 S (S + 7) ns ps last true cnt last vN vP W2 := by
  refine ⟨⟨hB.size, fun k o hk h1 _ => (ho k (by omega)).trans h1⟩, Nat.le_trans hst.size hB.size, ?_, (ho _ (by omega)).trans hst.most, (ho _ (by omega)).trans hst.res, hO, (ho _ (by omega)).trans hst.num, (ho _ (by omega)).trans hst.last, ?_, ?_, hst.sep⟩
  · exact ⟨hst.ent.1.trans hB, (ho _ (by omega)).trans hst.ent.2.1, (ho _ (by omega)).trans hst.ent.2.2.1, (ho _ (by omega)).trans hst.ent.2.2.2.1, (ho _ (by omega)).trans hst.ent.2.2.2.2⟩
  · exact own_move hst.rowN (fun k hk => ho k (by have := own_base hst.rowN k hk; omega))
  · exact own_move hst.rowP (fun k hk => ho k (by have := own_base hst.rowP k hk; omega))
theorem lpNames_snoc (pre : List (ByteArray × Bool)) (s : ByteArray) (b : Bool) : lpNames (pre ++ [(s, b)]) = if b = true then lpNames pre else lpNames pre ++ [s] := by cases b <;> simp [lpNames]
theorem lpPrefs_snoc (pre : List (ByteArray × Bool)) (s : ByteArray) (b : Bool) : lpPrefs (pre ++ [(s, b)]) = if b = true then lpPrefs pre ++ [s] else lpPrefs pre := by cases b <;> simp [lpPrefs]
theorem lpLast_snoc (pre : List (ByteArray × Bool)) (x : ByteArray × Bool) : lpLast (pre ++ [x]) = x.1 := by simp [lpLast]
theorem lpDone {es : List (ByteArray × Bool)} {m : Nat} (h : es.length ≤ m) : (lpNames (es.take m), lpPrefs (es.take m), if m < es.length then (es.getD (m - 1) (⟨#[]⟩, false)).1 else (⟨#[]⟩ : ByteArray), decide (m < es.length), (0 : Int)) = (lpNames es, lpPrefs es, ⟨#[]⟩, false, 0) := by
  rw [List.take_of_length_le h, if_neg (by omega), decide_eq_false (by omega)]
theorem lpStopped {es pre0 : List (ByteArray × Bool)} {x : ByteArray × Bool} {m : Nat} (h : pre0 ++ [x] <+: es) (hm : pre0.length = m) (h1 : 1 ≤ m) : (lpNames (es.take m), lpPrefs (es.take m), if m < es.length then (es.getD (m - 1) (⟨#[]⟩, false)).1 else (⟨#[]⟩ : ByteArray), decide (m < es.length), (0 : Int)) = (lpNames pre0, lpPrefs pre0, lpLast pre0, true, 0) := by
  obtain ⟨r, rfl⟩ := h
  have hl : m < (pre0 ++ [x] ++ r).length := by simp; omega
  rw [if_pos hl, decide_eq_true hl, List.append_assoc, ← hm, List.take_left]
  have : ((pre0 ++ ([x] ++ r)).getD (pre0.length - 1) (⟨#[]⟩, false)).1 = lpLast pre0 := by
    rw [List.getD_eq_getElem?_getD, List.getElem?_append_left (by omega), lpLast, List.getLast?_eq_getElem?]
    rw [List.getElem?_eq_getElem (by omega)]
    rfl
  rw [this]
theorem lpR {W : World} {b0 n0 : Nat} {v : Value} {xs : List ByteArray} {ok : Nat → Prop} (h : W.ownsRow b0 9 1 v xs.length (pw_strs xs)) (hb : n0 ≤ b0) (hok : ∀ k, v.ownBlock = some k → ok k) : Kd.R Kd.string 9 W n0 ok v xs :=
  ⟨hok, _, own_weaken h hb, Kd.reps_scalar xs⟩
set_option maxHeartbeats 4000000 in
set_option maxRecDepth 100000 in
theorem listing_Page.calls (A0 : Option Addr) (c0 : Nat) (l0 : List ByteArray) (a1 : ByteArray) (a2 : ByteArray) (a3 : ByteArray) (a4 : Int) (r1 : List ByteArray) (r2 : List ByteArray) (r3 : ByteArray) (r4 : Bool) (r5 : Int) (w : World) (hr0 : Kd.C Kd.string w A0 l0.length l0) (hc0 : l0.length ≤ c0) (h : listing_Page.f l0 a1 a2 a3 a4 = some (r1, r2, r3, r4, r5)) :
    Calls Try.prog 9 #[.slice A0 l0.length c0, .string a1, .string a2, .string a3, .int .i64 a4] w fun e w' => ∃ v0_ v1_ : Value, e = .returned (.tuple #[.agg #[v0_, v1_, .string r3, .bool r4], .int .i64 r5]) ∧ Kd.R Kd.string 9 w' w.heap.size (fun k_ => some k_ ≠ (v1_ : Value).ownBlock) v0_ r1 ∧ Kd.R Kd.string 9 w' w.heap.size (fun k_ => some k_ ≠ (v0_ : Value).ownBlock) v1_ r2 ∧ Below w.heap.size w w' := by
  show Calls Try.prog 9 #[.slice A0 l0.length c0, .string a1, .string a2, .string a3, .int .i64 a4] w (LpPost r1 r2 r3 r4 r5 w)
  unfold listing_Page.f at h
  obtain ⟨e0, he0, h1⟩ := Option.bind_eq_some_iff.1 h
  have hck := Aside0.mk he0
  clear he0 h
  refine (callsIn_wide (n := 8)).1 ?_
  refine callsIn_of_wp_marks Try.func9 rfl trivial ?_ rfl
  refine wpIn_wide.2 ?_
  simp only [Try.ntmps9, List.size_toArray, List.length_cons, List.length_nil, Nat.reduceAdd, Nat.reduceSub, Array.replicate_succ, Array.replicate_zero, List.push_toArray, List.append_toArray, List.nil_append, List.cons_append]
  by_cases h0 : e0 = 0
  · subst h0
    rw [if_pos rfl] at h1
    go_wp2_with (go_at_call 18; (with_reducible refine (listing_Check.calls _ _ _ _ _ _ hck.out).mono ?_); rintro e w' ⟨rfl, ⟨nd, rfl⟩⟩)
    have hg := Aside0.mk (show LpGoal l0 a1 a2 a3 a4 r1 r2 r3 r4 r5 from h1)
    clear h1
    have hbM : (((w.alloc (.cells #[.int .i64 a4] 3)).alloc (.cells #[.slice none 0 0, .slice none 0 0, .string ⟨#[]⟩, .bool false] 26)).drewN nd).heap[w.heap.size]? = some (.cells #[.int .i64 a4] 3 (0, 0)) :=
      (Below.heap_alloc _ _ _ (by simp)).trans (World.alloc_heap_new w _)
    have hbO : (((w.alloc (.cells #[.int .i64 a4] 3)).alloc (.cells #[.slice none 0 0, .slice none 0 0, .string ⟨#[]⟩, .bool false] 26)).drewN nd).heap[w.heap.size + 1]? = some (.cells #[.slice none 0 0, .slice none 0 0, .string ⟨#[]⟩, .bool false] 26 (0, 0)) := by
      have := World.alloc_heap_new (w.alloc (.cells #[.int .i64 a4] 3)) (.cells #[.slice none 0 0, .slice none 0 0, .string ⟨#[]⟩, .bool false] 26)
      rwa [World.size_alloc] at this
    have hB0 : Below w.heap.size w (((w.alloc (.cells #[.int .i64 a4] 3)).alloc (.cells #[.slice none 0 0, .slice none 0 0, .string ⟨#[]⟩, .bool false] 26)).drewN nd) := pw_below_drewN (below_alloc (below_alloc (Below.refl _ _) _) _) _
    obtain ⟨W0, hW0⟩ : ∃ W0, ((w.alloc (.cells #[.int .i64 a4] 3)).alloc (.cells #[.slice none 0 0, .slice none 0 0, .string ⟨#[]⟩, .bool false] 26)).drewN nd = W0 := ⟨_, rfl⟩
    rw [hW0] at hbM hbO hB0 ⊢
    clear hW0
    have hmx := hr0.2.1
    have cM := blk_cell hbM 0
    have cO0 := blk_cell hbO 0
    have cO1 := blk_cell hbO 1
    have cO2 := blk_cell hbO 2
    have cO3 := blk_cell hbO 3
    have fO0 := blk_frozen hbO 0
    have fO1 := blk_frozen hbO 1
    have fO2 := blk_frozen hbO 2
    have fO3 := blk_frozen hbO 3
    simp at cM cO0 cO1 cO2 cO3
    go_loopw [29] (fun i wr => ∃ k : Nat, i = .int .i64 k ∧ k ≤ l0.length ∧ LpRose l0 k ∧ ∃ m, wr = W0.drewN m) (fun i _ => l0.length - (intOf i).toNat)
    case atStart => exact ⟨0, rfl, Nat.zero_le _, fun j hj => absurd hj (by omega), 0, rfl⟩
    case round =>
      obtain ⟨k, rfl, hk, hrose0, m, rfl⟩ := hrel
      have hrose := Aside0.mk hrose0
      clear hrose0
      by_cases hlt : k < l0.length
      · cases k with
        | zero =>
          have hd0 : decide ((0 : Int) < 0) = false := by simp
          go_wp2
          go_quiet (fail)
          go_wp2
          go_roundw
          case rel => exact ⟨1, rfl, by omega, fun j hj => absurd hj (by omega), _, rfl⟩
          case measure => simp [intOf]; omega
        | succ k =>
          have hC1 := Kd.C_below hr0 hB0
          obtain ⟨ad, hA, hcell⟩ := Kd.at_string hC1 (k : Int) (by omega) (by omega)
          subst hA
          obtain ⟨ad', hA', hcell'⟩ := Kd.at_string hC1 ((k : Int) + 1) (by omega) (by omega)
          cases hA'
          rw [Int.toNat_natCast] at hcell
          rw [toNat_succ_] at hcell'
          rw [show ad.add (k + 1) = ⟨ad.block, ad.off + (k + 1), none⟩ from rfl] at hcell'
          have hd1 : decide ((0 : Int) < ((k + 1 : Nat) : Int)) = true := by simp
          have ew : IntKind.i64.wrap (k : Int) = (k : Int) := IntWalk.i64_in _ (by omega)
          have e1 : ((k : Int) + 1).toNat = k + 1 := by omega
          have e2 : (0 : Int) ≤ (k : Int) + 1 := by omega
          have e3 : (k : Int) + 1 < (l0.length : Int) := by omega
          have e4 : (k : Int) < (l0.length : Int) := by omega
          by_cases hb : Op.bytesLess (rdOf ByteArray.empty l0 (k : Int)).toList (rdOf ByteArray.empty l0 ((k : Int) + 1)).toList = true
          · go_wp2
            go_quiet (fail)
            go_wp2
            go_roundw
            case rel =>
              refine ⟨k + 1 + 1, by go_num, by omega, fun j hj => ?_, _, rfl⟩
              by_cases hj2 : j + 1 < k + 1
              · exact hrose.out j hj2
              · obtain rfl : j = k := by omega
                exact hb
            case measure => simp [intOf]; omega
          · have hb0 : Op.bytesLess (rdOf ByteArray.empty l0 (k : Int)).toList (rdOf ByteArray.empty l0 ((k : Int) + 1)).toList = false := by simpa using hb
            have hbad := lpAsc_not l0 k hlt hb0
            clear hb
            go_wp2
            go_quiet (fail)
            go_wp2
            have hg1 := hg.out
            unfold LpGoal at hg1
            rw [hbad] at hg1
            simp at hg1
            obtain ⟨rfl, rfl, rfl, rfl, rfl⟩ := hg1
            have hO1 : (W0.drewN (m + nq)).heap[w.heap.size + 1]? = some (.cells #[.slice none 0 0, .slice none 0 0, .string ⟨#[]⟩, .bool false] 26 (0, 0)) := hbO
            have hO2 := blk_set (blk_set (blk_set (blk_set hO1 0 (.slice none 0 0)) 1 (.slice none 0 0)) 2 (.string ⟨#[]⟩)) 3 (.bool false)
            simp at hO2
            refine ⟨_, results_ct rfl _ _ (w.heap.size + 1) 26 #[.slice none 0 0, .slice none 0 0, .string ⟨#[]⟩, .bool false] (0, 0) _ rfl hO2 Try.underlying26 rfl (by kernel_rfl), ?_⟩
            exact ⟨_, _, rfl, Kd.R_nil _ _ _ _ _, Kd.R_nil _ _ _ _ _, (((((pw_below_drewN hB0 (m + nq)).setCell (by simp) _).setCell (by simp) _).setCell (by simp) _).setCell (by simp) _)⟩
      · have hrs : lpAsc l0 = true := lpAsc_of l0 (fun j hj => hrose.out j (by omega))
        have hg1 := hg.out
        unfold LpGoal at hg1
        rw [if_pos hrs] at hg1
        obtain ⟨es, hes0, heq0⟩ := Option.map_eq_some_iff.1 hg1
        have hes := Aside0.mk hes0
        have heq := Aside0.mk heq0
        clear hes0 heq0 hg1 hrs hg
        obtain ⟨hm1, hm50⟩ := lpCheck_ok hck.out
        obtain ⟨X0, hX0⟩ : ∃ X0, W0.drewN m = X0 := ⟨_, rfl⟩
        have hs0 : X0.heap.size = W0.heap.size := by rw [← hX0]; rfl
        have hBx : Below w.heap.size w X0 := by rw [← hX0]; exact pw_below_drewN hB0 m
        have hbM1 : X0.heap[w.heap.size]? = some (.cells #[.int .i64 a4] 3 (0, 0)) := by rw [← hX0]; exact hbM
        have hbO1 : X0.heap[w.heap.size + 1]? = some (.cells #[.slice none 0 0, .slice none 0 0, .string ⟨#[]⟩, .bool false] 26 (0, 0)) := by rw [← hX0]; exact hbO
        clear cM cO0 cO1 cO2 cO3 fO0 fO1 fO2 fO3 hbM hbO hB0
        have hS2 : w.heap.size + 1 < X0.heap.size := blk_lt hbO1
        obtain ⟨S, hS⟩ : ∃ S, W0.heap.size = S := ⟨_, rfl⟩
        have hst0 := lpStart w X0 A0 l0.length c0 a1 a2 a3 a4 hBx hbM1 hbO1
        rw [hs0, hS] at hst0
        go_wp2_with (go_at_call 20; (with_reducible refine (entries_calls _ _ _ _ _ _ _).mono ?_); rintro e w' ⟨rfl, rfl⟩)
        obtain ⟨WL, hWL⟩ : ∃ WL, (((((((X0.alloc (.cells #[.slice none 0 0, .slice none 0 0, .string ⟨#[]⟩, .bool false] 26)).alloc (.cells #[.int .i64 0] 3)).alloc (.cells #[.string ⟨#[]⟩] 9)).alloc (.cells #[.slice A0 l0.length c0] 22)).alloc (.cells #[.string a1] 9)).alloc (.cells #[.string a2] 9)).alloc (.cells #[.string a3] 9)) = WL := ⟨_, rfl⟩
        have hsz : WL.heap.size = S + 7 := by rw [← hWL, ← hS, ← hs0]; simp
        rw [hWL] at hst0 ⊢
        clear hWL
        have hS3 : w.heap.size + 1 < S := by omega
        have hS4 : w.heap.size ≤ WL.heap.size := by omega
        refine (wpIn_wide (n := 8)).1 ?_
        refine Go.Proofs.Ytbhmffbpbicilaa.RangeM.law (encs := lpEnc) (gf := 25) (lb := #[.pointer (some ⟨S + 1 + 1 + 1 + 1 + 1 + 1, 0, none⟩), .pointer (some ⟨S + 1 + 1 + 1, 0, none⟩), .pointer (some ⟨S + 1 + 1 + 1 + 1, 0, none⟩), .pointer (some ⟨S + 1 + 1 + 1 + 1 + 1, 0, none⟩)]) rfl (by omega) rfl trivial (enters_of Try.func25 (by kernel_rfl) rfl) (fun _ => rfl)
          (LpMv (WL.heap.size + 2)) (LpKp w.heap.size [S + 1 + 1 + 1 + 1 + 1 + 1, S + 1 + 1 + 1, S + 1 + 1 + 1 + 1, S + 1 + 1 + 1 + 1 + 1]) (S := fun xs => xs = es) (Sp := fun p => p <+: es)
          ?hit ?hMv ?hKt ?hKb (LpI w A0 l0.length c0 a1 a2 a3 a4 S) (LpIx w A0 l0.length c0 a1 a2 a3 a4 S) ?hIm ?hIxm ?hIb ?hIxb ?h0
          (fun x a' W => ∃ Bx, S + 7 ≤ Bx ∧ W.heap[Bx]? = some (.cells #[.string x.1, .bool x.2] 47 (0, 0)) ∧ a' = { tmps := #[.slice A0 l0.length c0, .string a1, .string a2, .string a3, .int .i64 a4, undef, undef, undef, undef, .pointer (some ⟨w.heap.size, 0, none⟩), .pointer (some ⟨w.heap.size + 1, 0, none⟩), u11, .int .i64 0, u13, .pointer (some ⟨S, 0, none⟩), .pointer (some ⟨S + 1, 0, none⟩), .pointer (some ⟨S + 1 + 1, 0, none⟩), .pointer (some ⟨Bx, 0, none⟩), .string a1, .string a2, .string a3, .int .i64 a4, .int .i64 0, .int .i64 0, .bool false, undef, undef, .slice A0 l0.length c0, .int .i64 l0.length, .int .i64 k, .bool false, u31, u32, u33, u34, u35, u36, u37, u38, u39, u40, u41, u42, u43, u44, u45, u46, u47, .slice A0 l0.length c0, .string a1, .string a2, .string a3, .func (.func 25) #[] #[.pointer (some ⟨S + 1 + 1 + 1 + 1 + 1 + 1, 0, none⟩), .pointer (some ⟨S + 1 + 1 + 1, 0, none⟩), .pointer (some ⟨S + 1 + 1 + 1 + 1, 0, none⟩), .pointer (some ⟨S + 1 + 1 + 1 + 1 + 1, 0, none⟩)], .agg #[.string x.1, .bool x.2], undef, undef, undef, undef, undef, undef, undef, undef, undef, undef, undef, undef, undef, undef, undef, undef, undef, undef, undef, undef, undef, undef, undef, undef, undef, undef, undef], defers := [] }) ?hAxb ?hassign ?hbody ?hdone ?hstop
        case hit =>
          intro W1 hB1 hs1
          rw [← hs1]
          exact entries_iter _ w l0 a1 a2 a3 A0 c0 hr0 hc0 es hes.out _ _ _ _ W1 (hst0.kept (Lp47.below hS4 hB1)).ent
        case hMv => exact fun X Y hm j o h1 h2 hj => LpMv.stay hm (by omega) hj
        case hKt => exact fun h1 h2 => h1.trans h2
        case hKb => exact fun W o o' hl => LpKp.turn (by omega) hl o'
        case hIm => exact fun s X Y h hm => h.kept (Lp47.mv (by omega) (Nat.le_trans (by omega) h.size) hm)
        case hIxm => exact fun c s X Y h hm => h.kept (Lp47.mv (by omega) (Nat.le_trans (by omega) h.size) hm)
        case hIb => exact fun s X o o' h hl => h.kept (Lp47.turn (by omega) hl o')
        case hIxb => exact fun c s X o o' h hl => h.kept (Lp47.turn (by omega) hl o')
        case h0 => exact fun o o' => ⟨_, _, (hst0.kept (Lp47.alloc _ hS4 o)).kept (Lp47.alloc _ (by simp; omega) o'), Nat.zero_le _⟩
        case hAxb =>
          rintro x a' X o o' ⟨Bx, hB7, hb, rfl⟩ hl
          exact ⟨Bx, hB7, (Lp47.turnAny hl o' hb), rfl⟩
        case hassign =>
          rintro l pre x W K hi hK
          simp only [lpEnc]
          gi_wp2
          exact hK _ _ ((KeepsOthers.alloc _ _).from _) (LpKp.alloc _ (Nat.le_trans (by omega) hi.size) _) (hi.kept (Lp47.alloc _ (Nat.le_trans (by omega) hi.size) _)) ⟨W.heap.size, hi.size, World.alloc_heap_new _ _, rfl⟩
        case hbody =>
          rintro l pre x a' W ⟨vN, vP, hst, hl⟩ ⟨Bx, hB7, hbx, rfl⟩
          have b0 : ¬ Bx = S := by omega
          have b1 : ¬ Bx = S + 1 := by omega
          have b2 : ¬ Bx = S + 1 + 1 := by omega
          have b3 : ¬ S = Bx := by omega
          have b4 : ¬ S + 1 = Bx := by omega
          have b5 : ¬ S + 1 + 1 = Bx := by omega
          have cM := blk_cell hst.most 0
          have cN := blk_cell hst.num 0
          have cL := blk_cell hst.last 0
          have cO0 := blk_cell hst.out 0
          have cO1 := blk_cell hst.out 1
          have cO2 := blk_cell hst.out 2
          have cO3 := blk_cell hst.out 3
          have fO0 := blk_frozen hst.out 0
          have fO1 := blk_frozen hst.out 1
          have fO2 := blk_frozen hst.out 2
          have fO3 := blk_frozen hst.out 3
          have fN := blk_frozen hst.num 0
          have fL := blk_frozen hst.last 0
          have cX0 := blk_cell hbx 0
          have cX1 := blk_cell hbx 1
          simp at cM cN cL cO0 cO1 cO2 cO3 cX0 cX1
          by_cases hm : pre.length = a4.toNat
          · have hmb : ((pre.length : Int) == a4) = true := by rw [beq_iff_eq]; omega
            have hmH := Aside0.mk hm
            have hsH := Aside0.mk hsz
            clear hm hsz
            gi_wp2
            gi_region
            all_goals gi_wp2
            all_goals
              have hz1 := lpStop hst hS3 (W2 := ((W.setCell ⟨S, 3, none⟩ (.bool true)).setCell ⟨S, 2, none⟩ (.string (lpLast pre))).drew) (below_drew (((Below.refl _ W).setCell (p := ⟨S, 3, none⟩) (by show w.heap.size ≤ S; omega) _).setCell (p := ⟨S, 2, none⟩) (by show w.heap.size ≤ S; omega) _)) (fun b hb => (Below.heap_setCell _ ⟨S, 2, none⟩ _ b hb).trans (Below.heap_setCell _ ⟨S, 3, none⟩ _ b hb)) (by have := blk_set (blk_set hst.out 3 (.bool true)) 2 (.string (lpLast pre)); simp at this; exact this)
              have hz2 := lpStop hst hS3 (W2 := ((W.setCell ⟨S, 2, none⟩ (.string (lpLast pre))).setCell ⟨S, 3, none⟩ (.bool true)).drew) (below_drew (((Below.refl _ W).setCell (p := ⟨S, 2, none⟩) (by show w.heap.size ≤ S; omega) _).setCell (p := ⟨S, 3, none⟩) (by show w.heap.size ≤ S; omega) _)) (fun b hb => (Below.heap_setCell _ ⟨S, 3, none⟩ _ b hb).trans (Below.heap_setCell _ ⟨S, 2, none⟩ _ b hb)) (by have := blk_set (blk_set hst.out 2 (.string (lpLast pre))) 3 (.bool true); simp at this; exact this)
              rw [hsH.out]
              first
                | exact ⟨hz1.1, rfl, vN, vP, pre, x, rfl, hmH.out, hz1.2⟩
                | exact ⟨hz2.1, rfl, vN, vP, pre, x, rfl, hmH.out, hz2.2⟩
          · have hmb : ((pre.length : Int) == a4) = false := by rw [beq_eq_false_iff_ne]; omega
            obtain ⟨x1, x2⟩ := x
            cases x2 with
            | true =>
              have hr1 : (W.setCell ⟨S + 1, 0, none⟩ (.int .i64 ((pre.length : Int) + 1))).ownsRow (S + 7) 9 1 vP (pw_strs (lpPrefs pre)).length (pw_strs (lpPrefs pre)) := by
                have := own_setCell hst.rowP (p := ⟨S + 1, 0, none⟩) (fun e => absurd (show S + 7 ≤ S + 1 from own_base hst.rowP _ e.symm) (by omega)) (.int .i64 ((pre.length : Int) + 1))
                simpa [pw_strs] using this
              have hln : (pw_strs (lpPrefs pre)).length ≤ pre.length := by simp only [pw_strs, List.length_map, lpPrefs]; exact List.length_filter_le _ _
              have hsz7 := hst.size
              have hsWn : (W.setCell ⟨S + 1, 0, none⟩ (.int .i64 ((pre.length : Int) + 1))).heap.size = W.heap.size := by simp
              have hr1' := hr1
              have hln2 : ((pw_strs (lpPrefs pre)).length + 1) * 16 ≤ 140737488355328 := by omega
              gi_wp2_with (gi_at_builtin; refine Go.Proofs.Ytbhmffbpbicilaa.RangeM.append_one (W.setCell ⟨S + 1, 0, none⟩ (.int .i64 ((pre.length : Int) + 1))) rfl _ _ 22 rfl (S + 7) 9 (.string ⟨#[]⟩) 16 Try.underlying22 info9 rfl (by decide) vP (pw_strs (lpPrefs pre)) (.string x1) rfl (kx := W.heap.size) hsWn rfl rfl hr1 (by rw [hsWn]; exact hsz7) hln2 ?_; clear hr1; intro v' w1 hown hgr hat; obtain ⟨g', cap', rfl⟩ := ownsRow_succ hown; obtain ⟨hk1, hk2, hk3⟩ := lpPushP hst hS3 hown hgr hat; have oS : w1.heap[S]? = some (.cells #[vN, vP, .string ⟨#[]⟩, .bool false] 26 (0, 0)) := blk_grown (blk_far hst.out (p := ⟨S + 1, 0, none⟩) (show S ≠ S + 1 by omega) _) hgr (fun e => absurd (own_base hst.rowP _ e.symm) (by omega)); have oL : w1.heap[S + 1 + 1]? = some (.cells #[.string (lpLast pre)] 9 (0, 0)) := blk_grown (blk_far hst.last (p := ⟨S + 1, 0, none⟩) (show S + 1 + 1 ≠ S + 1 by omega) _) hgr (fun e => absurd (own_base hst.rowP _ e.symm) (by omega)); have oX : w1.heap[Bx]? = some (.cells #[.string x1, .bool true] 47 (0, 0)) := blk_grown (blk_far hbx (p := ⟨S + 1, 0, none⟩) (show Bx ≠ S + 1 by omega) _) hgr (own_ne hr1' (blk_far hbx (p := ⟨S + 1, 0, none⟩) (show Bx ≠ S + 1 by omega) _) (by decide)); have dS0 := blk_cell oS 0; have dS1 := blk_cell oS 1; have dL := blk_cell oL 0; have dX := blk_cell oX 0; have gS1 := blk_frozen oS 1; have gL := blk_frozen oL 0; simp at dS0 dS1 dL dX; clear oS oL oX cM cN cL cO0 cO1 cO2 cO3 cX0 cX1)
              gi_wp2
              exact ⟨hk1, hk2, _, _, by rw [lpNames_snoc, lpPrefs_snoc, lpLast_snoc, List.length_append]; exact hk3, by rw [List.length_append]; simp; omega⟩
            | false =>
              have hr1 : (W.setCell ⟨S + 1, 0, none⟩ (.int .i64 ((pre.length : Int) + 1))).ownsRow (S + 7) 9 1 vN (pw_strs (lpNames pre)).length (pw_strs (lpNames pre)) := by
                have := own_setCell hst.rowN (p := ⟨S + 1, 0, none⟩) (fun e => absurd (show S + 7 ≤ S + 1 from own_base hst.rowN _ e.symm) (by omega)) (.int .i64 ((pre.length : Int) + 1))
                simpa [pw_strs] using this
              have hln : (pw_strs (lpNames pre)).length ≤ pre.length := by simp only [pw_strs, List.length_map, lpNames]; exact List.length_filter_le _ _
              have hsz7 := hst.size
              have hsWn : (W.setCell ⟨S + 1, 0, none⟩ (.int .i64 ((pre.length : Int) + 1))).heap.size = W.heap.size := by simp
              have hr1' := hr1
              have hln2 : ((pw_strs (lpNames pre)).length + 1) * 16 ≤ 140737488355328 := by omega
              gi_wp2_with (gi_at_builtin; refine Go.Proofs.Ytbhmffbpbicilaa.RangeM.append_one (W.setCell ⟨S + 1, 0, none⟩ (.int .i64 ((pre.length : Int) + 1))) rfl _ _ 22 rfl (S + 7) 9 (.string ⟨#[]⟩) 16 Try.underlying22 info9 rfl (by decide) vN (pw_strs (lpNames pre)) (.string x1) rfl (kx := W.heap.size) hsWn rfl rfl hr1 (by rw [hsWn]; exact hsz7) hln2 ?_; clear hr1; intro v' w1 hown hgr hat; obtain ⟨g', cap', rfl⟩ := ownsRow_succ hown; obtain ⟨hk1, hk2, hk3⟩ := lpPushN hst hS3 hown hgr hat; have oS : w1.heap[S]? = some (.cells #[vN, vP, .string ⟨#[]⟩, .bool false] 26 (0, 0)) := blk_grown (blk_far hst.out (p := ⟨S + 1, 0, none⟩) (show S ≠ S + 1 by omega) _) hgr (fun e => absurd (own_base hst.rowN _ e.symm) (by omega)); have oL : w1.heap[S + 1 + 1]? = some (.cells #[.string (lpLast pre)] 9 (0, 0)) := blk_grown (blk_far hst.last (p := ⟨S + 1, 0, none⟩) (show S + 1 + 1 ≠ S + 1 by omega) _) hgr (fun e => absurd (own_base hst.rowN _ e.symm) (by omega)); have oX : w1.heap[Bx]? = some (.cells #[.string x1, .bool false] 47 (0, 0)) := blk_grown (blk_far hbx (p := ⟨S + 1, 0, none⟩) (show Bx ≠ S + 1 by omega) _) hgr (own_ne hr1' (blk_far hbx (p := ⟨S + 1, 0, none⟩) (show Bx ≠ S + 1 by omega) _) (by decide)); have dS0 := blk_cell oS 0; have dS1 := blk_cell oS 1; have dL := blk_cell oL 0; have dX := blk_cell oX 0; have gS0 := blk_frozen oS 0; have gL := blk_frozen oL 0; simp at dS0 dS1 dL dX; clear oS oL oX cM cN cL cO0 cO1 cO2 cO3 cX0 cX1)
              gi_wp2
              exact ⟨hk1, hk2, _, _, by rw [lpNames_snoc, lpPrefs_snoc, lpLast_snoc, List.length_append]; exact hk3, by rw [List.length_append]; simp; omega⟩
        case hdone =>
          rintro D xs W hD rfl ⟨vN, vP, hst, hl⟩ hK
          obtain ⟨AN, cN, rfl⟩ := own_slice hst.rowN
          obtain ⟨AP, cP, rfl⟩ := own_slice hst.rowP
          have cO0 := blk_cell hst.out 0
          have cO1 := blk_cell hst.out 1
          have cO2 := blk_cell hst.out 2
          have cO3 := blk_cell hst.out 3
          have cR0 := blk_cell hst.res 0
          have cR1 := blk_cell hst.res 1
          have cR2 := blk_cell hst.res 2
          have cR3 := blk_cell hst.res 3
          have fR0 := blk_frozen hst.res 0
          have fR1 := blk_frozen hst.res 1
          have fR2 := blk_frozen hst.res 2
          have fR3 := blk_frozen hst.res 3
          simp at cO0 cO1 cO2 cO3 cR0 cR1 cR2 cR3
          go_wp2
          have e1 : ∀ b, b ≠ w.heap.size + 1 → ((((W.setCell ⟨w.heap.size + 1, 0, none⟩ (.slice AN (lpNames xs).length cN)).setCell ⟨w.heap.size + 1, 1, none⟩ (.slice AP (lpPrefs xs).length cP)).setCell ⟨w.heap.size + 1, 2, none⟩ (.string ⟨#[]⟩)).setCell ⟨w.heap.size + 1, 3, none⟩ (.bool false)).heap[b]? = W.heap[b]? := fun b hb =>
            (Below.heap_setCell _ ⟨w.heap.size + 1, 3, none⟩ _ b hb).trans ((Below.heap_setCell _ ⟨w.heap.size + 1, 2, none⟩ _ b hb).trans ((Below.heap_setCell _ ⟨w.heap.size + 1, 1, none⟩ _ b hb).trans (Below.heap_setCell _ ⟨w.heap.size + 1, 0, none⟩ _ b hb)))
          have e2 := blk_set (blk_set (blk_set (blk_set hst.res 0 (.slice AN (lpNames xs).length cN)) 1 (.slice AP (lpPrefs xs).length cP)) 2 (.string ⟨#[]⟩)) 3 (.bool false)
          have e3 : Below w.heap.size w ((((W.setCell ⟨w.heap.size + 1, 0, none⟩ (.slice AN (lpNames xs).length cN)).setCell ⟨w.heap.size + 1, 1, none⟩ (.slice AP (lpPrefs xs).length cP)).setCell ⟨w.heap.size + 1, 2, none⟩ (.string ⟨#[]⟩)).setCell ⟨w.heap.size + 1, 3, none⟩ (.bool false)) :=
            (((hst.ent.1.setCell (p := ⟨w.heap.size + 1, 0, none⟩) (by show w.heap.size ≤ w.heap.size + 1; omega) _).setCell (p := ⟨w.heap.size + 1, 1, none⟩) (by show w.heap.size ≤ w.heap.size + 1; omega) _).setCell (p := ⟨w.heap.size + 1, 2, none⟩) (by show w.heap.size ≤ w.heap.size + 1; omega) _).setCell (p := ⟨w.heap.size + 1, 3, none⟩) (by show w.heap.size ≤ w.heap.size + 1; omega) _
          simp only [Array.setIfInBounds, List.size_toArray, List.length_cons, List.length_nil] at e2
          obtain ⟨W4, hW4⟩ : ∃ W4, ((((W.setCell ⟨w.heap.size + 1, 0, none⟩ (.slice AN (lpNames xs).length cN)).setCell ⟨w.heap.size + 1, 1, none⟩ (.slice AP (lpPrefs xs).length cP)).setCell ⟨w.heap.size + 1, 2, none⟩ (.string ⟨#[]⟩)).setCell ⟨w.heap.size + 1, 3, none⟩ (.bool false)) = W4 := ⟨_, rfl⟩
          rw [hW4] at e1 e2 e3 ⊢
          clear hW4
          have hK4 := (e1 D (by omega)).trans hK
          refine ⟨by simp, .inl ⟨_, _, rfl, run_takeDeferred hK4, ?_⟩⟩
          refine ⟨_, results_ct rfl _ _ (w.heap.size + 1) 26 #[.slice AN (lpNames xs).length cN, .slice AP (lpPrefs xs).length cP, .string ⟨#[]⟩, .bool false] (0, 0) _ rfl ((World.putObj_heap_other (by omega)).trans e2) Try.underlying26 rfl (by kernel_rfl), ?_⟩
          have hq := heq.out
          rw [lpDone hl] at hq
          simp only [Prod.mk.injEq] at hq
          obtain ⟨rfl, rfl, rfl, rfl, rfl⟩ := hq
          have rN := ownsRow_putObj (own_move hst.rowN (fun k hk => e1 k (by have := own_base hst.rowN k hk; omega))) (.deferred none) hK4 rfl
          have rP := ownsRow_putObj (own_move hst.rowP (fun k hk => e1 k (by have := own_base hst.rowP k hk; omega))) (.deferred none) hK4 rfl
          exact ⟨_, _, rfl, lpR rN (by omega) (fun k hk e => hst.sep k hk e.symm), lpR rP (by omega) (fun k hk e => hst.sep k e.symm hk), e3.trans (belowK_b (w := w) (Nat.le_refl _) W4 D _ _ (by omega) hK4 rfl rfl)⟩
        case hstop =>
          rintro D cd pre W hD hpre ⟨rfl, vN, vP, pre0, x, rfl, hp0, hst⟩ hK
          obtain ⟨AN, cN, rfl⟩ := own_slice hst.rowN
          obtain ⟨AP, cP, rfl⟩ := own_slice hst.rowP
          have cO0 := blk_cell hst.out 0
          have cO1 := blk_cell hst.out 1
          have cO2 := blk_cell hst.out 2
          have cO3 := blk_cell hst.out 3
          have cR0 := blk_cell hst.res 0
          have cR1 := blk_cell hst.res 1
          have cR2 := blk_cell hst.res 2
          have cR3 := blk_cell hst.res 3
          have fR0 := blk_frozen hst.res 0
          have fR1 := blk_frozen hst.res 1
          have fR2 := blk_frozen hst.res 2
          have fR3 := blk_frozen hst.res 3
          simp at cO0 cO1 cO2 cO3 cR0 cR1 cR2 cR3
          have hp0' := Aside0.mk hp0
          refine wpIn_wide.2 ?_
          clear hp0
          go_wp2
          have hp0 := hp0'.out
          have e1 : ∀ b, b ≠ w.heap.size + 1 → ((((W.setCell ⟨w.heap.size + 1, 0, none⟩ (.slice AN (lpNames pre0).length cN)).setCell ⟨w.heap.size + 1, 1, none⟩ (.slice AP (lpPrefs pre0).length cP)).setCell ⟨w.heap.size + 1, 2, none⟩ (.string (lpLast pre0))).setCell ⟨w.heap.size + 1, 3, none⟩ (.bool true)).heap[b]? = W.heap[b]? := fun b hb =>
            (Below.heap_setCell _ ⟨w.heap.size + 1, 3, none⟩ _ b hb).trans ((Below.heap_setCell _ ⟨w.heap.size + 1, 2, none⟩ _ b hb).trans ((Below.heap_setCell _ ⟨w.heap.size + 1, 1, none⟩ _ b hb).trans (Below.heap_setCell _ ⟨w.heap.size + 1, 0, none⟩ _ b hb)))
          have e2 := blk_set (blk_set (blk_set (blk_set hst.res 0 (.slice AN (lpNames pre0).length cN)) 1 (.slice AP (lpPrefs pre0).length cP)) 2 (.string (lpLast pre0))) 3 (.bool true)
          have e3 : Below w.heap.size w ((((W.setCell ⟨w.heap.size + 1, 0, none⟩ (.slice AN (lpNames pre0).length cN)).setCell ⟨w.heap.size + 1, 1, none⟩ (.slice AP (lpPrefs pre0).length cP)).setCell ⟨w.heap.size + 1, 2, none⟩ (.string (lpLast pre0))).setCell ⟨w.heap.size + 1, 3, none⟩ (.bool true)) :=
            (((hst.ent.1.setCell (p := ⟨w.heap.size + 1, 0, none⟩) (by show w.heap.size ≤ w.heap.size + 1; omega) _).setCell (p := ⟨w.heap.size + 1, 1, none⟩) (by show w.heap.size ≤ w.heap.size + 1; omega) _).setCell (p := ⟨w.heap.size + 1, 2, none⟩) (by show w.heap.size ≤ w.heap.size + 1; omega) _).setCell (p := ⟨w.heap.size + 1, 3, none⟩) (by show w.heap.size ≤ w.heap.size + 1; omega) _
          simp only [Array.setIfInBounds, List.size_toArray, List.length_cons, List.length_nil] at e2
          obtain ⟨W4, hW4⟩ : ∃ W4, ((((W.setCell ⟨w.heap.size + 1, 0, none⟩ (.slice AN (lpNames pre0).length cN)).setCell ⟨w.heap.size + 1, 1, none⟩ (.slice AP (lpPrefs pre0).length cP)).setCell ⟨w.heap.size + 1, 2, none⟩ (.string (lpLast pre0))).setCell ⟨w.heap.size + 1, 3, none⟩ (.bool true)) = W4 := ⟨_, rfl⟩
          rw [hW4] at e1 e2 e3 ⊢
          clear hW4
          have hK4 := (e1 D (by omega)).trans hK
          refine ⟨by simp, .inl ⟨_, _, rfl, run_takeDeferred hK4, ?_⟩⟩
          refine ⟨_, results_ct rfl _ _ (w.heap.size + 1) 26 #[.slice AN (lpNames pre0).length cN, .slice AP (lpPrefs pre0).length cP, .string (lpLast pre0), .bool true] (0, 0) _ rfl ((World.putObj_heap_other (by omega)).trans e2) Try.underlying26 rfl (by kernel_rfl), ?_⟩
          have hq := heq.out
          rw [lpStopped hpre hp0 (by omega)] at hq
          simp only [Prod.mk.injEq] at hq
          obtain ⟨rfl, rfl, rfl, rfl, rfl⟩ := hq
          have rN := ownsRow_putObj (own_move hst.rowN (fun k hk => e1 k (by have := own_base hst.rowN k hk; omega))) (.deferred none) hK4 rfl
          have rP := ownsRow_putObj (own_move hst.rowP (fun k hk => e1 k (by have := own_base hst.rowP k hk; omega))) (.deferred none) hK4 rfl
          exact ⟨_, _, rfl, lpR rN (by omega) (fun k hk e => hst.sep k hk e.symm), lpR rP (by omega) (fun k hk e => hst.sep k e.symm hk), e3.trans (belowK_b (w := w) (Nat.le_refl _) W4 D _ _ (by omega) hK4 rfl rfl)⟩
  · rw [if_neg h0] at h1
    have h0b : (e0 != 0) = true := by simp [h0]
    have h0c : (e0 == 0) = false := by simp [h0]
    have hh0 := Aside0.mk h0
    clear h0
    go_wp2_with (go_at_call 18; (with_reducible refine (listing_Check.calls _ _ _ _ _ _ hck.out).mono ?_); rintro e w' ⟨rfl, ⟨nd, rfl⟩⟩)
    simp at h1
    obtain ⟨rfl, rfl, rfl, rfl, rfl⟩ := h1
    have hbO : (((w.alloc (.cells #[.int .i64 a4] 3)).alloc (.cells #[.slice none 0 0, .slice none 0 0, .string ⟨#[]⟩, .bool false] 26)).drewN nd).heap[w.heap.size + 1]? = some (.cells #[.slice none 0 0, .slice none 0 0, .string ⟨#[]⟩, .bool false] 26 (0, 0)) := by
      have := World.alloc_heap_new (w.alloc (.cells #[.int .i64 a4] 3)) (.cells #[.slice none 0 0, .slice none 0 0, .string ⟨#[]⟩, .bool false] 26)
      rwa [World.size_alloc] at this
    have hB0 : Below w.heap.size w (((w.alloc (.cells #[.int .i64 a4] 3)).alloc (.cells #[.slice none 0 0, .slice none 0 0, .string ⟨#[]⟩, .bool false] 26)).drewN nd) := pw_below_drewN (below_alloc (below_alloc (Below.refl _ _) _) _) _
    have hO2 := blk_set (blk_set (blk_set (blk_set hbO 0 (.slice none 0 0)) 1 (.slice none 0 0)) 2 (.string ⟨#[]⟩)) 3 (.bool false)
    simp only [Array.setIfInBounds, List.size_toArray, List.length_cons, List.length_nil] at hO2
    refine ⟨_, results_ct rfl _ _ (w.heap.size + 1) 26 #[.slice none 0 0, .slice none 0 0, .string ⟨#[]⟩, .bool false] (0, 0) _ rfl hO2 Try.underlying26 rfl (by kernel_rfl), ?_⟩
    exact ⟨_, _, rfl, Kd.R_nil _ _ _ _ _, Kd.R_nil _ _ _ _ _, ((((hB0.setCell (by simp) _).setCell (by simp) _).setCell (by simp) _).setCell (by simp) _)⟩

end Go.Proofs.Ytbhmffbpbicilaa.P
