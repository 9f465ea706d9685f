/- A range over a function whose iterator keeps variables of its own in cells: the statement's law, with the iterator's own moves told by a relation. No program in sight. -/
import Derived.RangeFuncNested
import Derived.RangeFuncBound
import Derived.RangeFuncCalls
import Derived.OwnWalkIn
import Derived.Maps.AppendAt
namespace Go.Proofs.Ytbhmffbpbicilaa.RangeM
open Go Go.RowKit
variable {F : Fence} {n : Nat} {P : Program}

/-- What a function that is ranged over does, for a caller that abides its own moves Mv: all of S has come, or a part (Sp) at which a round said no. -/
def Iter {α : Type} (F : Fence) (n : Nat) (P : Program) (g : Nat) (lb : Array Value) (encs : α → Array Value) (Mv Kp : World → World → Prop) (S Sp : List α → Prop) (W : World) : Prop :=
  ∀ (l : Nat) (J Jx : List α → World → Prop), (∀ s A B, J s A → Mv A B → J s B) → (∀ s A B, Jx s A → Mv A B → Jx s B) →
    (∀ pre x W1, J pre W1 → YieldAt F (n - 1) P l (encs x) W1 fun e W' =>
      (e = .returned (.bool true) ∧ J (pre ++ [x]) W' ∧ Kp W1 W') ∨ (e = .returned (.bool false) ∧ Jx (pre ++ [x]) W')) →
    J [] W →
    CallsIn F n P g (#[.func (.yield l) #[] #[]] ++ lb) W fun e W' => (∃ v, e = .returned v) ∧ ((∃ xs, S xs ∧ J xs W') ∨ (∃ pre, Sp pre ∧ Jx pre W'))

/-- The two blocks that the statement keeps books in. -/
def Books (w W : World) (r : Loop) : Prop := W.heap[w.heap.size + 1]? = some (.loop r) ∧ W.heap[w.heap.size]? = some (.deferred (some []))
theorem Books.lt {w W : World} {r : Loop} (h : Books w W r) : w.heap.size + 1 < W.heap.size := (Array.getElem?_eq_some_iff.1 h.1).1
theorem Books.turn {w W : World} {r : Loop} (h : Books w W r) (r' : Loop) : Books w (W.putObj (w.heap.size + 1) (.loop r')) r' :=
  ⟨World.putObj_heap_same h.lt, (World.putObj_heap_other (by omega)).trans h.2⟩
theorem Books.keep {w W W' : World} {r : Loop} (h : Books w W r) (k : KeepsFrom w.heap.size W W') : Books w W' r :=
  ⟨k.same _ _ (by omega) h.1 rfl, k.same _ _ (Nat.le_refl _) h.2 rfl⟩

/-- **The law.** -/
theorem law {α : Type} {g : Operand} {ps : Array Tmp} {assign body : Code} {Q : Exit → Act → World → Prop} {a : Act} {w : World}
    (hro : F.round = none) (h1 : 1 ≤ n) {gf : Nat} {lb : Array Value} (hg : a.eval g = .func (.func gf) #[] lb) (hFg : F.fn gf) (eg : ∀ args w, (callFunc gf args).run P w = .ok (.enter gf args) w)
    {encs : α → Array Value} (hps : ∀ x, (encs x).size = ps.size) (Mv Kp : World → World → Prop) {S Sp : List α → Prop}
    (hit : ∀ W1, Below w.heap.size w W1 → W1.heap.size = w.heap.size + 2 → Iter F (n - 1) P gf lb encs Mv Kp S Sp W1)
    (hMv : ∀ A B, Mv A B → ∀ k o, w.heap.size ≤ k → k < w.heap.size + 2 → A.heap[k]? = some o → B.heap[k]? = some o)
    (hKt : ∀ {A B C : World}, Kp A B → Kp B C → Kp A C) (hKb : ∀ (W : World) (o : Loop) (o' : Obj), W.heap[w.heap.size + 1]? = some (.loop o) → Kp W (W.putObj (w.heap.size + 1) o'))
    (I : List α → World → Prop) (Ix : Code → List α → World → Prop)
    (hIm : ∀ s A B, I s A → Mv A B → I s B) (hIxm : ∀ c s A B, Ix c s A → Mv A B → Ix c s B)
    (hIb : ∀ s A o o', I s A → A.heap[w.heap.size + 1]? = some (.loop o) → I s (A.putObj (w.heap.size + 1) o')) (hIxb : ∀ c s A o o', Ix c s A → A.heap[w.heap.size + 1]? = some (.loop o) → Ix c s (A.putObj (w.heap.size + 1) o'))
    (h0 : ∀ o o', I [] ((w.alloc o).alloc o'))
    (Ax : α → Act → World → Prop) (hAxb : ∀ x a' A o o', Ax x a' A → A.heap[w.heap.size + 1]? = some (.loop o) → Ax x a' (A.putObj (w.heap.size + 1) o'))
    (hassign : ∀ (l : Nat) (pre : List α) (x : α) (W : World) (K : Act → World → Prop), I pre W → (∀ a' W', KeepsFrom w.heap.size W W' → Kp W W' → I pre W' → Ax x a' W' → K a' W') →
      assign.wpIn (F.inRound l) (n - 1 - 1) P (Exit.then K (fun _ _ _ => False)) { tmps := (ps.zip (encs x)).foldl (fun t (p, v) => t.setIfInBounds p v) a.tmps, defers := [] } W)
    (hbody : ∀ (l : Nat) (pre : List α) (x : α) (a' : Act) (W : World), I pre W → Ax x a' W → body.wpIn (F.inRound l) (n - 1 - 1) P (ownPostG w.heap.size Kp I Ix (pre ++ [x]) W) a' W)
    (hdone : ∀ (D : Nat) (xs : List α) (W : World), w.heap.size ≤ D → S xs → I xs W → W.heap[D]? = some (.deferred (some [])) → Q .normal { a with defers := { target := .collected D, args := #[] } :: a.defers } W)
    (hstop : ∀ (D : Nat) (c : Code) (pre : List α) (W : World), w.heap.size ≤ D → Sp pre → Ix c pre W → W.heap[D]? = some (.deferred (some [])) → c.wpIn F n P Q { a with defers := { target := .collected D, args := #[] } :: a.defers } W) :
    (Code.rangeFunc g ps assign body).wpIn F n P Q a w := by
  refine wpIn_rangeFunc fun fn hfn => ?_
  rw [hro]
  let rc : LoopState → Option Code → Loop := fun st pe => { state := st, pending := pe, fn, tmps := a.tmps, params := ps, assign, body, defers := w.heap.size }
  have hbk0 : Books w ((w.alloc (.deferred (some []))).alloc (.loop (rc .ready none))) (rc .ready none) := by
    refine ⟨?_, (Below.heap_alloc _ _ _ (by simp)).trans (World.alloc_heap_new w _)⟩
    have := World.alloc_heap_new (w.alloc (.deferred (some []))) (.loop (rc .ready none))
    rwa [World.size_alloc] at this
  have hB : Below w.heap.size w ((w.alloc (.deferred (some []))).alloc (.loop (rc .ready none))) := ((Below.refl _ w).alloc (Nat.le_refl _) _).alloc (by simp) _
  refine ⟨w.heap.size + 1, [{ target := .collected w.heap.size, args := #[] }], (w.alloc (.deferred (some []))).alloc (.loop (rc .ready none)), { target := .fn (.func gf) lb, args := #[.func (.yield (w.heap.size + 1)) #[] #[]] }, (w.alloc (.deferred (some []))).alloc (.loop (rc .ready none)), gf,
    #[.func (.yield (w.heap.size + 1)) #[] #[]] ++ lb, (w.alloc (.deferred (some []))).alloc (.loop (rc .ready none)), run_enterLoop_outer _ _ _ _ _, ?_, fun f' hf' => by simp [Target.leads] at hf'; subst hf'; exact hFg, ?_, fun _ => h1, ?_⟩
  · simp only [resolve, hg]
    simp [go_sem]
  · simp [invoke, go_sem, eg]
  refine (hit _ hB (by simp) (w.heap.size + 1) (fun pre W => I pre W ∧ Books w W (rc .ready none)) (fun pre W => ∃ c, Ix c pre W ∧ Books w W (rc .done (some c)))
    (fun s A B hs hm => ⟨hIm s A B hs.1 hm, hMv A B hm _ _ (by omega) (by omega) hs.2.1, hMv A B hm _ _ (Nat.le_refl _) (by omega) hs.2.2⟩)
    (fun s A B hs hm => by obtain ⟨c, hc, hb⟩ := hs; exact ⟨c, hIxm c s A B hc hm, hMv A B hm _ _ (by omega) (by omega) hb.1, hMv A B hm _ _ (Nat.le_refl _) (by omega) hb.2⟩)
    ?_ ⟨h0 _ _, hbk0⟩).mono ?_
  · rintro pre x W ⟨hi, hbk⟩
    refine ⟨fn, _, assign, body, run_yield (P := P) (args := encs x) hbk.1 (hps x), roundIn_of_wpIn hfn (hassign _ pre x W _ hi fun a' Wa hka hpa hia hax => ?_)⟩
    have hbka := hbk.keep hka
    have hbk1 := hbka.turn (rc .busy none)
    refine ⟨_, run_beginRound hbka.1 rfl, ?_⟩
    have hp1 := hKb Wa _ (.loop (rc .busy none)) hbka.1
    refine wpIn_mono (hbody _ pre x a' _ (hIb _ _ _ _ hia hbka.1) (hAxb _ _ _ _ _ hax hbka.1)) ?_
    have out : ∀ (c : Code) (W3 : World), KeepsFrom w.heap.size (Wa.putObj (w.heap.size + 1) (.loop (rc .busy none))) W3 → Ix c (pre ++ [x]) W3 →
        ∃ v w', (Instr.endRound (w.heap.size + 1) (some c)).run P W3 = .ok v w' ∧ ((Ending.returned v = .returned (.bool true) ∧ (I (pre ++ [x]) w' ∧ Books w w' (rc .ready none)) ∧ Kp W w') ∨ (Ending.returned v = .returned (.bool false) ∧ ∃ c, Ix c (pre ++ [x]) w' ∧ Books w w' (rc .done (some c)))) := by
      intro c W3 hk3 hx3
      have hb3 := hbk1.keep hk3
      exact ⟨_, _, run_endRound (some c) hb3.1, .inr ⟨rfl, c, hIxb _ _ _ _ _ hx3 hb3.1, hb3.turn (rc .done (some c))⟩⟩
    rintro e a3 W3 hp
    cases e with
    | normal =>
      obtain ⟨hk3, hkp3, hi3⟩ := hp
      have hb3 := hbk1.keep hk3
      exact ⟨_, _, run_endRound none hb3.1, .inl ⟨rfl, ⟨hIb _ _ _ _ hi3 hb3.1, hb3.turn (rc .ready none)⟩, hKt hpa (hKt (hKt hp1 hkp3) (hKb _ _ _ hb3.1))⟩⟩
    | ret => exact out _ _ hp.1 hp.2
    | exit id => exact out _ _ hp.1 hp.2
    | goto t => exact out _ _ hp.1 hp.2
    | panic ch => exact hp.elim
    | outgrown => exact hp.elim
  · rintro e W2 ⟨⟨v, rfl⟩, (⟨xs, hS, hi, hbk⟩ | ⟨pre, hSp, c, hi, hbk⟩)⟩
    · exact ⟨none, _, run_endLoop hbk.1 (by simp [rc]), hdone _ xs _ (Nat.le_refl _) hS (hIb _ _ _ _ hi hbk.1) ((World.putObj_heap_other (by omega)).trans hbk.2)⟩
    · exact ⟨some c, _, run_endLoop hbk.1 (by simp [rc]), hstop _ c pre _ (Nat.le_refl _) hSp (hIxb _ _ _ _ _ hi hbk.1) ((World.putObj_heap_other (by omega)).trans hbk.2)⟩
/-- append(v, y) of one cell, in a fence. -/
theorem append_one {ops : Array Oper} {rest : List Oper} {o : Oper} {a : Act} {Q : Exit → Act → World → Prop} (W : World) (hgd : o.guard = none) (s x : Operand) (t : TypeId)
    (ho : o.op = .call { callee := .builtin .append, args := #[s, x], argTypes := #[t, t] })
    (base : Nat) (e : TypeId) (z : Value) (bytes : Nat) (ht : P.underlying t = some (.slice e)) (hinfo : (P.info? e).map (fun i => (i.zero, i.size, i.bytes)) = some (some z, 1, bytes)) (hzs : z.cells.size = 1) (hb0 : 0 < bytes)
    (v : Value) (xs : List Value) (y : Value) (hs : a.eval s = v) {kx : Nat} (hkx : W.heap.size = kx) (hx : a.eval x = .slice (some ⟨kx, 0, none⟩) 1 1) (h1 : y.oneCell' = true)
    (HO : W.ownsRow base e 1 v xs.length xs) (hbase : base ≤ W.heap.size) (hl : (xs.length + 1) * bytes ≤ 140737488355328)
    (h : ∀ v1 w1, w1.ownsRow base e 1 v1 (xs.length + 1) (xs ++ [y]) → W.grownBy w1 v.ownBlock → (v1.ownBlock = v.ownBlock ∨ ∃ b, v1.ownBlock = some b ∧ W.heap.size ≤ b) → wpListIn F n P ops Q rest (a.put o.dst v1) w1) :
    wpListIn F n P ops Q (o :: rest) a (W.alloc (.cells #[y] e)) := by
  subst hkx
  obtain ⟨i0, hi, hzz⟩ := Option.map_eq_some_iff.1 hinfo
  simp only [Prod.mk.injEq] at hzz
  obtain ⟨hz0, hz1, hz2⟩ := hzz
  have hlen : xs.length + 1 ≤ 140737488355328 := Nat.le_trans (Nat.le_mul_of_pos_right _ hb0) hl
  have hnews : ∀ j u, [y][j]? = some u → (W.alloc (.cells #[y] e)).cell? ((⟨W.heap.size, 0, none⟩ : Addr).add j) = some u := cell_one_new W y e
  refine wpListIn_plain hgd fun K hK' => ?_
  obtain ⟨v', w', hrun, r1, r2, _, r4⟩ := run_append_own_at (P := P) (W.alloc (.cells #[y] e)) base t o.type e i0 z 1 bytes ht hi hz0 hz1 hz2 hzs (by omega) v xs.length xs (HO.alloc _) ⟨W.heap.size, 0, none⟩ 1 1 [y] rfl hnews (by simpa using h1) (by simp only [maxLen]; omega) hl (by simp; omega)
  unfold Oper.wpIn
  refine ⟨?_, ?_⟩
  · simp [Oper.about, ho, resolve, Target.leads, Sem.run_pure]
  · rw [Oper.semAt_plain F _ _ (by rw [ho]; intro c hc'; cases hc')]
    simp [execOp, ho, resolve, invoke, builtin, hs, hx, hrun, Result.andThen]
    refine hK' _ _ (h v' w' r1 (World.grownBy.trans (World.grownBy_alloc W _ _) r2) ?_)
    rcases r4 with r4 | r4
    · exact .inl r4
    · exact .inr ⟨_, r4, by simp⟩
end Go.Proofs.Ytbhmffbpbicilaa.RangeM
