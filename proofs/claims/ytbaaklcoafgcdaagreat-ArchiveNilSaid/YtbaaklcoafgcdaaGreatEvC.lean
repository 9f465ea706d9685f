import Derived.Test.YtbaaklcoafgcdaaGreatEvA
set_option linter.unusedVariables false
set_option linter.unusedSimpArgs false
namespace Go.Ev
section
variable {C : Cx} {run : Run} {ops : Array Oper} {n : Nat} {s0 : DS} {tr : List St} {D : Nat → DS} {S S' : Nat → Bool} {i : Nat} {P : Program} {E0 E : Env} {H0 G : AHp} {w0 w : World} {N : Nat}
theorem Mid.le_put (m : Mid P E0 H0 w0 N tr ops S E G w) {id : Nat} (hn : E.ν id = none) (x c : Nat) : E.le (E.put id x c) := Env.put_le hn
theorem Mid.alloc (r : Rdy ops S S' i) (hi : ¬ Loud tr i) {id : Nat} {ao : AObj} (hal : IsAl tr i id ao) (hone : ∀ id' ob', IsAl tr i id' ob' → id' = id ∧ ob' = ao) (hdf : ∀ j id' ob', IsAl tr j id' ob' → j ≠ i → id' ≠ id) (hlo : H0.nx ≤ id) (hN : id < N)
    (m : Mid P E0 H0 w0 N tr ops S E G w) {ob : Obj} {c : Nat} (hor : OR P (E.put id w.heap.size c) id ao ob) (d : Nat) :
    Mid P E0 H0 w0 N tr ops S' (E.put id w.heap.size c) G (({ w with drawn := d } : World).alloc ob) := by
  have hn : E.ν id = none := m.no i id ao hal r.un
  have le := Env.put_le (x := w.heap.size) (c := c) hn
  have hx : ∀ j x, j ≠ id → (E.put id w.heap.size c).ν j = some x → E.ν j = some x := fun j x hne h => by simpa [Env.put, hne] using h
  have hlive : ∀ j o, G.get j = some o → o.live = true → j ≠ id := fun j o h1 h2 e => by
    obtain ⟨b, _, h3, _⟩ := m.hr.obj j o h1 h2
    rw [e, hn] at h3; cases h3
  have hnm : ∀ b, Named (E.put id w.heap.size c) G b → Named E G b := fun b ⟨j, o, h1, h2, h3⟩ => ⟨j, o, h1, h2, hx j b (hlive j o h1 h2) h3⟩
  have hold : ∀ j id' ob', IsAl tr j id' ob' → j ≠ i → XX tr ops S' j → ∃ b o, w0.heap.size ≤ b ∧ E.ν id' = some b ∧ w.heap[b]? = some o ∧ OR P E id' ob' o ∧ ¬ Named E G b := fun j id' ob' h1 hne h2 => m.ex j id' ob' h1 (h2.quiet r hi hne)
  have hheap : ∀ b, b < w.heap.size → (({ w with drawn := d } : World).alloc ob).heap[b]? = w.heap[b]? := fun b hb => heap_push_lt ({ w with drawn := d } : World) ob hb
  refine ⟨⟨fun j o h1 h2 => ?_, fun j k a b x h1 h2 h3 h4 h5 h6 => ?_, fun j hj => ?_⟩, fun j hj => ?_, m.os, m.tape, m.output, ?_, fun b hb hnb => ?_, fun b hb hlt => m.named b (hnm b hb) hlt, m.nx, fun j id' ob' h1 h2 => ?_, fun j k id1 id2 o1 o2 h1 h2 h3 h4 hne => ?_, fun j id' ob' h1 h2 => ?_⟩
  · obtain ⟨b, o', h3, h4, h5⟩ := m.hr.obj j o h1 h2
    exact ⟨b, o', (le.m j b h3).1, by rw [hheap b (heap_lt h4)]; exact h4, h5.mono le (le.m j b h3).2⟩
  · exact m.hr.inj j k a b x h1 h2 h3 h4 (hx j x (hlive j a h1 h2) h5) (hx k x (hlive k b h3 h4) h6)
  · have hne : j ≠ id := by have := m.nx; omega
    have := m.hr.fresh j hj
    exact ⟨by simp [Env.put, hne, this.1], this.2⟩
  · have hne : j ≠ id := by omega
    have := m.keep j hj
    exact ⟨by simp [Env.put, hne, this.1], by simp [Env.put, hne, this.2.1], this.2.2⟩
  · have := m.size
    show w0.heap.size ≤ (({ w with drawn := d } : World).alloc ob).heap.size
    rw [alloc_heap]; simp; omega
  · rw [hheap b (Nat.lt_of_lt_of_le hb m.size)]; exact m.block b hb hnb
  · rcases Classical.em (j = i) with rfl | hne
    · obtain ⟨rfl, rfl⟩ := hone id' ob' h1
      refine ⟨w.heap.size, ob, m.size, by simp [Env.put], heap_push_eq ({ w with drawn := d } : World) ob, hor, fun hh => ?_⟩
      obtain ⟨k, o, k1, k2, k3⟩ := hnm _ hh
      obtain ⟨b, o', k4, k5, _⟩ := m.hr.obj k o k1 k2
      rw [k3] at k4; cases k4
      have := heap_lt k5; omega
    · obtain ⟨b, o, k1, k2, k3, k4, k5⟩ := hold j id' ob' h1 hne h2
      exact ⟨b, o, k1, (le.m _ _ k2).1, by rw [hheap b (heap_lt k3)]; exact k3, k4.mono le (le.m _ _ k2).2, fun hh => k5 (hnm b hh)⟩
  · by_cases hj : j = i <;> by_cases hk : k = i
    · subst hj; subst hk; exact absurd ((hone _ _ h1).1.trans (hone _ _ h2).1.symm) hne
    · subst hj
      obtain ⟨b, o, k1, k2, k3, _⟩ := hold k id2 o2 h2 hk h4
      rw [(hone _ _ h1).1]
      intro e
      have e1 : (E.put id w.heap.size c).ν id = some w.heap.size := by simp [Env.put]
      rw [e1, (le.m _ _ k2).1] at e
      cases e
      have := heap_lt k3; omega
    · subst hk
      obtain ⟨b, o, k1, k2, k3, _⟩ := hold j id1 o1 h1 hj h3
      rw [(hone _ _ h2).1]
      intro e
      have e1 : (E.put id w.heap.size c).ν id = some w.heap.size := by simp [Env.put]
      rw [e1, (le.m _ _ k2).1] at e
      cases e
      have := heap_lt k3; omega
    · obtain ⟨b, o, k1, k2, k3, _⟩ := hold j id1 o1 h1 hj h3
      obtain ⟨b', o', k1', k2', k3', _⟩ := hold k id2 o2 h2 hk h4
      have := m.exi j k id1 id2 o1 o2 h1 h2 (h3.quiet r hi hj) (h4.quiet r hi hk) hne
      rw [(le.m _ _ k2).1, (le.m _ _ k2').1]
      rw [k2, k2'] at this
      exact this
  · have hne : j ≠ i := fun e => by subst e; rw [r.at] at h2; cases h2
    have h3 := m.no j id' ob' h1 (by rw [← r.ne hne]; exact h2)
    have : id' ≠ id := hdf j id' ob' h1 hne
    simp [Env.put, this, h3]
/-- a loud one has run: what it had in its mask has come to light -/
theorem Mid.loud (tc : Tc C run ops n s0 tr D) (h0 : s0.old = []) (ha0 : s0.ads = []) (r : Rdy ops S S' i) (hi : Loud tr i) (hN : ∀ j id ob, IsAl tr j id ob → id < N) (hHN : H0.nx ≤ N)
    (m : Mid P E0 H0 w0 N tr ops S E (D i).G w) :
    HR P E (revealed false (mask ops i) (D i).ads (D i).G) w ∧ ∀ E' H' w', Post P E (revealed false (mask ops i) (D i).ads (D i).G) w E' H' w' → Mid P E0 H0 w0 N tr ops S' E' H' w' := by
  have hil := hi.lt
  have hal : ∀ a, a ∈ (D i).ads → sel false (mask ops i) a = true → IsAl tr a.ix a.id a.ob ∧ XX tr ops S a.ix := by
    intro a ha hs
    obtain ⟨h1, h2, h3⟩ := tc.ads ha0 i (by omega) a ha
    refine ⟨h2, r.msk _ hs, fun k hk hS => ?_⟩
    rcases Nat.lt_trichotomy k i with h | h | h
    · exact h3 k hk h
    · subst h; rw [r.un] at hS; cases hS
    · rw [(tc.louds h0 r hi hk).2 h] at hS; cases hS
  obtain ⟨k1, k2, k3⟩ := reveal false (mask ops i) (D i).ads (D i).G (tc.pair ha0 i (by omega)).2 m.hr (fun a ha hs => by
      obtain ⟨h1, h2⟩ := hal a ha hs
      obtain ⟨b, o, _, h4⟩ := m.ex a.ix a.id a.ob h1 h2
      exact ⟨b, o, h4⟩) (fun a c ha hc hsa hsc hne => m.exi a.ix c.ix a.id c.id a.ob c.ob (hal a ha hsa).1 (hal c hc hsc).1 (hal a ha hsa).2 (hal c hc hsc).2 hne)
  refine ⟨k1, fun E' H' w' p => ?_⟩
  have le := p.le k1
  have hnx : (revealed false (mask ops i) (D i).ads (D i).G).nx = (D i).G.nx := k2
  have hnm : ∀ b, Named E (revealed false (mask ops i) (D i).ads (D i).G) b → b < w0.heap.size → Named E0 H0 b := by
    intro b hb hlt
    rcases k3 b hb with h | ⟨a, ha, hs, hx⟩
    · exact m.named b h hlt
    · obtain ⟨b', o, h4, h5, _⟩ := m.ex a.ix a.id a.ob (hal a ha hs).1 (hal a ha hs).2
      rw [hx] at h5; cases h5; omega
  have back : ∀ j id ob, IsAl tr j id ob → XX tr ops S' j → XX tr ops S j ∧ bit (mask ops i) j = false := by
    intro j id ob h1 h2
    have hne : j ≠ i := by
      intro e; subst e
      obtain ⟨s1, mk, a1, a2⟩ := h1
      obtain ⟨s2, b1, b2⟩ := hi
      rw [a1] at b1; cases b1
      rw [a2] at b2; exact b2
    exact ⟨⟨by rw [← r.ne hne]; exact h2.1, fun k hk hS => h2.2 k hk ((r.up k).2 (.inl hS))⟩, h2.2 i hi r.at⟩
  have hide : ∀ j id ob, IsAl tr j id ob → XX tr ops S' j → ∀ b, E.ν id = some b → ¬ Named E (D i).G b → ¬ Named E (revealed false (mask ops i) (D i).ads (D i).G) b := by
    intro j id ob h1 h2 b hb hn hh
    rcases k3 b hh with h | ⟨a, ha, hs, hx⟩
    · exact hn h
    · have hne : j ≠ a.ix := by
        intro e
        have := (back j id ob h1 h2).2
        rw [e] at this
        have hs : bit (mask ops i) a.ix = true := hs
        rw [this] at hs; cases hs
      exact m.exi j a.ix id a.id ob a.ob h1 (hal a ha hs).1 (back j id ob h1 h2).1 (hal a ha hs).2 (tc.al_ne h1 (hal a ha hs).1 hne) (hb.trans hx.symm)
  have hNx : N ≤ (revealed false (mask ops i) (D i).ads (D i).G).nx := by rw [hnx]; exact m.nx
  have hH0 : ∀ j, j < H0.nx → j < (revealed false (mask ops i) (D i).ads (D i).G).nx  := fun j hj => Nat.lt_of_lt_of_le hj (Nat.le_trans hHN hNx)
  refine ⟨p.hr, fun j hj => ?_, p.os.trans m.os, p.tape.trans m.tape, p.output.trans m.output, Nat.le_trans m.size p.size, fun b hb hnb => ?_, fun b hb hlt => ?_, Nat.le_trans hNx p.nx, fun j id ob h1 h2 => ?_, fun j k id1 id2 o1 o2 h1 h2 h3 h4 hne => ?_, fun j id ob h1 h2 => ?_⟩
  · have a := p.keep j (hH0 j hj)
    have b := m.keep j hj
    exact ⟨a.1.trans b.1, a.2.1.trans b.2.1, fun k => (a.2.2 k).trans (b.2.2 k)⟩
  · rw [p.block b (Nat.lt_of_lt_of_le hb m.size) (fun h => hnb (hnm b h hb)), m.block b hb hnb]
  · exact hnm b (p.named b hb (Nat.lt_of_lt_of_le hlt m.size)) hlt
  · obtain ⟨b, o, a1, a2, a3, a4, a5⟩ := m.ex j id ob h1 (back j id ob h1 h2).1
    have hh := hide j id ob h1 h2 b a2 a5
    have hb := heap_lt a3
    exact ⟨b, o, a1, (le.m _ _ a2).1, by rw [p.block b hb hh]; exact a3, a4.mono le (le.m _ _ a2).2, fun h => hh (p.named b h hb)⟩
  · obtain ⟨b, o, a1, a2, _⟩ := m.ex j id1 o1 h1 (back j id1 o1 h1 h3).1
    obtain ⟨b', o', a1', a2', _⟩ := m.ex k id2 o2 h2 (back k id2 o2 h2 h4).1
    have := m.exi j k id1 id2 o1 o2 h1 h2 (back j id1 o1 h1 h3).1 (back k id2 o2 h2 h4).1 hne
    rw [(le.m _ _ a2).1, (le.m _ _ a2').1]
    rw [a2, a2'] at this
    exact this
  · have hne : j ≠ i := fun e => by subst e; rw [r.at] at h2; cases h2
    have hid := hN j id ob h1
    rw [(p.keep id (Nat.lt_of_lt_of_le hid hNx)).1]
    exact m.no j id ob h1 (by rw [← r.ne hne]; exact h2)
end
end Go.Ev
