import Derived.Test.YtbaaklcoafgcdaaGreatEvC
set_option linter.unusedVariables false
set_option linter.unusedSimpArgs false
namespace Go.Ev
section
variable {C : Cx} {run : Run} {ops : Array Oper} {n : Nat} {s0 : DS} {tr : List St} {D : Nat → DS} {S S' : Nat → Bool} {i : Nat} {P : Program} {E0 E : Env} {H0 G : AHp} {w0 w : World} {N : Nat}
theorem Tc.step (ok : CxOk C) (hrun : RunOk C.P run) (tc : Tc C run ops n s0 tr D) (h0 : s0.old = []) (ha0 : s0.ads = []) (hid : ∀ j id ob, IsAl tr j id ob → H0.nx ≤ id ∧ id < N) (hHN : H0.nx ≤ N) (r : Rdy ops S S' i)
    {st : St} (hst : tr[i]? = some st) (m : Mid C.P E0 H0 w0 N tr ops S E G w) (sg : Stage tr D S G) {A : Array Value} (sl : Slots tr s0.T n S E A) (fn : FuncId) (its : List Item) (dl : List Deferred) (rr : Option Nat) (cs : List Frame) (is : List Nat) :
    ∃ E' G' w' A', Steps C.P (lone (fr0 fn A (.inRegion ops (i :: is) :: its) dl rr) cs w) (lone (fr0 fn A' (.inRegion ops is :: its) dl rr) cs w') ∧
      Mid C.P E0 H0 w0 N tr ops S' E' G' w' ∧ Stage tr D S' G' ∧ Slots tr s0.T n S' E' A' := by
  have ho := tc.om i st hst
  have hR := tc.sees r hst sl
  have hl := (tc.st i st hst).1.2
  have hn := (tc.st i st hst).2
  have nl : ∀ {k : SK}, st.k = k → ¬ k.isLoud → ¬ Loud tr i := fun e h hh => by
    obtain ⟨s1, h1, h2⟩ := hh
    rw [hst] at h1; cases h1
    rw [e] at h2; exact h h2
  have na : (∀ id ob mk, st.k ≠ .alloc id ob mk) → ∀ id ob, ¬ IsAl tr i id ob := fun h id ob hh => by
    obtain ⟨s1, mk, h1, h2⟩ := hh
    rw [hst] at h1; cases h1
    exact h _ _ _ h2
  cases hk : st.k with
  | skip =>
    rw [hk] at hl
    have q := nl hk (fun h => h)
    exact ⟨E, G, w, _, st_pass ho (wanted_sound hR hl.1), m.quiet r q (na (by rw [hk]; nofun)), sg.quiet r q, tc.slots_next r hst sl (Env.le_refl E) (by rw [hl.2]; exact gam_undef)⟩
  | pure =>
    rw [hk] at hl
    have q := nl hk (fun h => h)
    have hop : opA C (rs ops (D i) st.o) G st.o.op = .pure (some st.v) := by
      rw [← hl.2]; exact opA_heap (by rw [hl.2]; nofun)
    obtain ⟨z, hz, hg⟩ := opA_sound ok m.hr hR (.inl hop)
    exact ⟨E, G, w, _, st_value ho (wanted_sound hR hl.1) (noDefer (by rw [hop]; nofun)) hz, m.quiet r q (na (by rw [hk]; nofun)), sg.quiet r q, tc.slots_next r hst sl (Env.le_refl E) hg⟩
  | read =>
    rw [hk] at hl
    have q := nl hk (fun h => h)
    have hop := tc.stage_read r hst hk sg
    obtain ⟨z, hz, hg⟩ := opA_sound ok m.hr hR (.inr hop)
    exact ⟨E, G, w, _, st_value ho (wanted_sound hR hl.1) (noDefer (by rw [hop]; nofun)) hz, m.quiet r q (na (by rw [hk]; nofun)), sg.quiet r q, tc.slots_next r hst sl (Env.le_refl E) hg⟩
  | alloc id ob mk =>
    rw [hk] at hl
    have q := nl hk (fun h => h)
    have hop : opA C (rs ops (D i) st.o) G st.o.op = .alloc (some (ob, mk)) := by
      rw [← hl.2.1]; exact opA_heap (by rw [hl.2.1]; nofun)
    have hal : IsAl tr i id ob := ⟨st, mk, hst, hk⟩
    obtain ⟨u, w1, hz, hm⟩ := alloc_sound ok m.hr hR hop
    obtain ⟨o', c, d, rfl, hh⟩ := hm.out
    have hnone := m.no i id ob hal r.un
    obtain ⟨k1, k2⟩ := hh id hnone
    refine ⟨_, G, _, _, st_value ho (wanted_sound hR hl.1) (noDefer (by rw [hop]; nofun)) hz, m.alloc r q hal ?_ (fun j id' ob' h1 hne => tc.al_ne h1 hal hne) (hid i id ob hal).1 (hid i id ob hal).2 k1 d, sg.quiet r q, tc.slots_next r hst sl (Env.put_le hnone) (by rw [hl.2.2.1]; exact k2)⟩
    intro id' ob' ⟨s1, mk', h1, h2⟩
    rw [hst] at h1; cases h1
    rw [hk] at h2; cases h2
    exact ⟨rfl, rfl⟩
  | loud H =>
    rw [hk] at hl
    have hi : Loud tr i := ⟨st, hst, by rw [hk]; trivial⟩
    have hG := tc.stage_loud h0 r hi sg
    subst hG
    obtain ⟨hrv, hnext⟩ := m.loud tc h0 ha0 r hi (fun j id ob h => (hid j id ob h).2) hHN
    have hop : opA C (rs ops (D i) st.o) (revealed false (mask ops i) (D i).ads (D i).G) st.o.op = .loud := by
      rw [← hl.2.1]; exact opA_heap (by rw [hl.2.1]; nofun)
    obtain ⟨E', w', u, k1, k2, k3⟩ := loudRun_sound (fn := fn) (its := its) (dl := dl) (r := rr) (cs := cs) (is := is) ok hrun hl.2.2.2.1 hop hrv hR ho (wanted_sound hR hl.1)
    have hG' : (D (i + 1)).G = H := by rw [hn]; unfold nxt; rw [hk]; rfl
    refine ⟨E', H, w', _, k1, hnext E' H w' k3, ?_, tc.slots_next r hst sl (k3.le hrv) k2⟩
    rw [← hG']
    exact tc.stage_next h0 r hi
def cntF : List Bool → Nat
  | [] => 0
  | b :: l => (if b then 0 else 1) + cntF l
theorem cntF_set : ∀ (l : List Bool) (i : Nat), l[i]? = some false → cntF (l.set i true) + 1 = cntF l
  | [], i, h => by simp at h
  | b :: l, 0, h => by
    simp at h; subst h
    simp [cntF]; omega
  | b :: l, i + 1, h => by
    have := cntF_set l i (by simpa using h)
    simp only [List.set_cons_succ, cntF]; omega
theorem cntF_zero : ∀ (l : List Bool), cntF l = 0 → ∀ (i : Nat) (b : Bool), l[i]? = some b → b = true
  | [], h, i, b, hb => by simp at hb
  | c :: l, h, i, b, hb => by
    simp only [cntF] at h
    cases i with
    | zero => simp at hb; subst hb; cases c <;> simp at h ⊢
    | succ i => exact cntF_zero l (by omega) i b (by simpa using hb)
theorem cntF_pos : ∀ (l : List Bool), 0 < cntF l → ∃ i : Nat, l[i]? = some false
  | [], h => by simp [cntF] at h
  | c :: l, h => by
    cases c with
    | false => exact ⟨0, rfl⟩
    | true =>
      obtain ⟨i, hi⟩ := cntF_pos l (by simpa [cntF] using h)
      exact ⟨i + 1, by simpa using hi⟩
/-- some operation is ready while one is left -/
theorem some_ready (he : edgesOk ops.toList 0 = true) {listed : Array Bool} (hs : listed.size = ops.size) : ∀ (d i : Nat), i ≤ d → listed[i]? = some false → ∃ j, j ∈ Region.ready .any ops listed := by
  intro d
  induction d with
  | zero =>
    intro i hi hf
    have : i = 0 := by omega
    subst this
    have hlt := (Array.getElem?_eq_some_iff.1 hf).1
    obtain ⟨o, ho⟩ : ∃ o, ops[0]? = some o := ⟨ops[0], Array.getElem?_eq_getElem (by omega)⟩
    refine ⟨0, mem_ready.2 ⟨by rw [Array.getD_eq_getD_getElem?, hf]; rfl, o, ho, fun e hm hb => ?_⟩⟩
    have := edges_ok ops.toList 0 he 0 o (by simpa using ho) e (by simpa using hm) hb
    omega
  | succ d ih =>
    intro i hi hf
    have hlt := (Array.getElem?_eq_some_iff.1 hf).1
    obtain ⟨o, ho⟩ : ∃ o, ops[i]? = some o := ⟨ops[i], Array.getElem?_eq_getElem (by omega)⟩
    rcases Classical.em (∃ e, e ∈ o.after ∧ Region.binds .any e = true ∧ listed.getD e.on false = false) with ⟨e, hm, hb, hn⟩ | hno
    · have hl := edges_ok ops.toList 0 he i o (by simpa using ho) e (by simpa using hm) hb
      have hel : e.on < listed.size := by omega
      refine ih e.on (by omega) ?_
      rw [Array.getElem?_eq_getElem hel]
      simpa [Array.getD, hel] using hn
    · refine ⟨i, mem_ready.2 ⟨by rw [Array.getD_eq_getD_getElem?, hf]; rfl, o, ho, fun e hm hb => ?_⟩⟩
      cases hv : listed.getD e.on false with
      | true => rfl
      | false => exact absurd ⟨e, hm, hb, hv⟩ hno
theorem Tc.loop (ok : CxOk C) (hrun : RunOk C.P run) (tc : Tc C run ops n s0 tr D) (h0 : s0.old = []) (ha0 : s0.ads = []) (hid : ∀ j id ob, IsAl tr j id ob → H0.nx ≤ id ∧ id < N) (hHN : H0.nx ≤ N)
    (fn : FuncId) (its : List Item) (dl : List Deferred) (rr : Option Nat) (cs : List Frame) :
    ∀ (fuel t : Nat) (listed : Array Bool) (E : Env) (G : AHp) (w : World) (A : Array Value), listed.size = ops.size → cntF listed.toList = fuel → ClosedD ops (fun k => listed.getD k false) →
      Mid C.P E0 H0 w0 N tr ops (fun k => listed.getD k false) E G w → Stage tr D (fun k => listed.getD k false) G → Slots tr s0.T n (fun k => listed.getD k false) E A →
      ∃ E' G' w' A' Sf, Steps C.P (lone (fr0 fn A (.inRegion ops (Region.linearise.go .any ops fuel t listed []) :: its) dl rr) cs w) (lone (fr0 fn A' (.inRegion ops [] :: its) dl rr) cs w') ∧
        (∀ k, k < ops.size → Sf k = true) ∧ Mid C.P E0 H0 w0 N tr ops Sf E' G' w' ∧ Stage tr D Sf G' ∧ Slots tr s0.T n Sf E' A' := by
  intro fuel
  induction fuel with
  | zero =>
    intro t listed E G w A hs hc hcl m sg sl
    refine ⟨E, G, w, A, _, .refl _ _, fun k hk => ?_, m, sg, sl⟩
    have hk' : k < listed.size := by omega
    have := cntF_zero _ hc k listed[k] (by simp [hk'])
    show listed.getD k false = true
    simpa [Array.getD, hk'] using this
  | succ fuel ih =>
    intro t listed E G w A hs hc hcl m sg sl
    simp only [Region.linearise.go]
    change ∃ E' G' w' A' Sf, Steps C.P (lone (fr0 fn A (.inRegion ops (match (Region.ready .any ops listed)[t % (Region.ready .any ops listed).length]? with
      | some i => Region.linearise.go .any ops fuel (t / (Region.ready .any ops listed).length) (listed.setIfInBounds i true) [i]
      | none => [].reverse) :: its) dl rr) cs w) _ ∧ _
    obtain ⟨q, hq⟩ := cntF_pos listed.toList (by omega)
    obtain ⟨j, hj⟩ := some_ready tc.edges hs q q (Nat.le_refl _) (by simpa using hq)
    cases hi : (Region.ready .any ops listed)[t % (Region.ready .any ops listed).length]? with
    | none =>
      exfalso
      have hlt : t % (Region.ready .any ops listed).length < (Region.ready .any ops listed).length := Nat.mod_lt _ (List.length_pos_of_mem hj)
      rw [List.getElem?_eq_getElem hlt] at hi
      cases hi
    | some i =>
      dsimp only
      rw [linearise_go_acc, List.reverse_singleton, List.singleton_append]
      obtain ⟨hun, o, hoi, hall⟩ := mem_ready.1 (List.mem_of_getElem? hi)
      have hil : i < ops.size := (Array.getElem?_eq_some_iff.1 hoi).1
      have hil' : i < listed.size := by omega
      have hfi : listed[i]? = some false := by
        rw [Array.getElem?_eq_getElem hil']
        simpa [Array.getD, hil'] using hun
      have hun' : listed.getD i false = false := by rw [Array.getD_eq_getD_getElem?, hfi]; rfl
      have hat : (listed.setIfInBounds i true).getD i false = true := by
        rw [Array.getD_eq_getD_getElem?]; simp [hil']
      have hcl' : ClosedD ops (fun k => (listed.setIfInBounds i true).getD k false) := by
        intro k o' hk hSk e he hb
        rcases Classical.em (k = i) with rfl | hne
        · rw [hoi] at hk; cases hk
          exact getD_set_true (hall e (by simpa using he) hb)
        · have hSk : (listed.setIfInBounds i true).getD k false = true := hSk
          rw [getD_set_ne false (Ne.symm hne)] at hSk
          exact getD_set_true (hcl k o' hk hSk e he hb)
      have r : Rdy ops (fun k => listed.getD k false) (fun k => (listed.setIfInBounds i true).getD k false) i := by
        refine ⟨hcl, hun', fun j hb => ?_, fun k => ⟨fun h => ?_, fun h => ?_⟩⟩
        · have h1 := mask_closed hcl' hat hb
          have h2 := mask_lt tc.edges hb
          have h1 : (listed.setIfInBounds i true).getD j false = true := h1
          rw [getD_set_ne false (by omega)] at h1
          exact h1
        · rcases Classical.em (k = i) with hk | hk
          · exact .inr hk
          · have h : (listed.setIfInBounds i true).getD k false = true := h
            rw [getD_set_ne false (Ne.symm hk)] at h
            exact .inl h
        · rcases h with h | rfl
          · exact getD_set_true h
          · exact hat
      obtain ⟨st, hst, _⟩ := tc.mo i o hoi
      obtain ⟨E1, G1, w1, A1, k1, k2, k3, k4⟩ := tc.step ok hrun h0 ha0 hid hHN r hst m sg sl fn its dl rr cs (Region.linearise.go .any ops fuel (t / (Region.ready .any ops listed).length) (listed.setIfInBounds i true) [])
      obtain ⟨E2, G2, w2, A2, Sf, j1, j2⟩ := ih (t / (Region.ready .any ops listed).length) (listed.setIfInBounds i true) E1 G1 w1 A1 (by simp [hs]) (by
        have := cntF_set listed.toList i (by simpa using hfi)
        rw [Array.toList_setIfInBounds]; omega) hcl' k2 k3 k4
      exact ⟨E2, G2, w2, A2, Sf, k1.trans j1, j2⟩
end
theorem Tc.count {C : Cx} {run : Run} {ops : Array Oper} {n : Nat} {s0 : DS} {tr : List St} {D : Nat → DS} (tc : Tc C run ops n s0 tr D) (hlen : tr.length = ops.size) : ∀ m, m ≤ tr.length → (D m).nid + countAlloc C (ops.toList.drop m) ≤ s0.nid + countAlloc C ops.toList
  | 0, _ => by rw [tc.z]; simp
  | m + 1, hm => by
    have ih := tc.count hlen m (by omega)
    obtain ⟨st, hst⟩ : ∃ st, tr[m]? = some st := ⟨tr[m], List.getElem?_eq_getElem (by omega)⟩
    have ho := tc.om m st hst
    have hlt : m < ops.toList.length := by simp; omega
    have hd : ops.toList.drop m = st.o :: ops.toList.drop (m + 1) := by
      rw [List.drop_eq_getElem_cons hlt]
      have : ops.toList[m]? = some st.o := by simpa using ho
      rw [List.getElem?_eq_getElem hlt] at this
      injection this with this
      rw [this]
    have hc : countAlloc C (st.o :: ops.toList.drop (m + 1)) = cnd (isAlloc C st.o.op) (Nat.succ (countAlloc C (ops.toList.drop (m + 1)))) (countAlloc C (ops.toList.drop (m + 1))) := rfl
    rw [hd, hc] at ih
    rw [(tc.st m st hst).2]
    have hge : countAlloc C (ops.toList.drop (m + 1)) ≤ cnd (isAlloc C st.o.op) (Nat.succ (countAlloc C (ops.toList.drop (m + 1)))) (countAlloc C (ops.toList.drop (m + 1))) := by
      cases isAlloc C st.o.op
      · exact Nat.le_refl _
      · exact Nat.le_succ _
    rcases nxt_nid (ops := ops) m (D m) st with h | ⟨h, id, ob, mk, hk⟩
    · rw [h]; omega
    · have hl := (tc.st m st hst).1.2
      rw [hk] at hl
      rw [isAlloc_of hl.2.1] at ih
      change (D m).nid + Nat.succ (countAlloc C (ops.toList.drop (m + 1))) ≤ _ at ih
      rw [h]; omega
theorem draw_ok {C : Cx} (ok : CxOk C) : DrawOk C := by
  intro run hrun fi ops T H T' H' hdo hle hdl E w A its dl rr cs t hr ht
  obtain ⟨hslots, hrest⟩ : slotsOk ops ops.toList 0 = true ∧ edgesOk ops.toList 0 = true := by
    unfold drawOk at hdo
    obtain ⟨h1, h2⟩ := cnd_and hdo
    exact ⟨h1, (cnd_and h2).1⟩
  obtain ⟨tr, sf, hmap, htra, rfl, rfl⟩ := draw_trace _ _ _ _ _ hdl
  obtain ⟨D, hz, hf, hst⟩ := trace_states tr 0 _ sf htra
  have hlen : tr.length = ops.size := by
    have := congrArg List.length hmap
    simpa using this
  have hio : ∀ m : Nat, ops[m]? = (tr[m]?).map St.o := by
    intro m
    rw [← List.getElem?_map, hmap]; simp
  have tc : Tc C run ops fi.n ⟨T, ⟨H.t, Nat.add H.nx (countAlloc C ops.toList)⟩, [], [], [], H.nx⟩ tr D := by
    refine ⟨hz, fun m st h => by have := hst m st h; rwa [Nat.zero_add] at this, fun m st h => by rw [hio, h]; rfl, fun m o h => ?_, hslots, hrest⟩
    rw [hio] at h
    cases hm : tr[m]? with
    | none => rw [hm] at h; cases h
    | some st => rw [hm] at h; cases h; exact ⟨st, rfl, rfl⟩
  have hid : ∀ j id ob, IsAl tr j id ob → H.nx ≤ id ∧ id < Nat.add H.nx (countAlloc C ops.toList) := by
    intro j id ob h
    obtain ⟨h1, h2, h3⟩ := tc.al_id h
    have a := tc.nid_le j 0 (by omega)
    rw [Nat.zero_add, tc.z] at a
    have b := tc.count hlen (j + 1) h3
    change (D (j + 1)).nid + _ ≤ H.nx + countAlloc C ops.toList at b
    change H.nx ≤ (D j).nid at a
    refine ⟨by omega, ?_⟩
    show id < H.nx + countAlloc C ops.toList
    omega
  have hHN : H.nx ≤ Nat.add H.nx (countAlloc C ops.toList) := Nat.le_add_right _ _
  have hfalse : ∀ k, (Array.replicate ops.size false).getD k false = false := by
    intro k
    rw [Array.getD_eq_getD_getElem?, Array.getElem?_replicate]
    split <;> rfl
  have hcnt : ∀ m : Nat, cntF (List.replicate m false) = m := by
    intro m
    induction m with
    | zero => rfl
    | succ m ih => rw [List.replicate_succ]; simp only [cntF, ih]; simp; omega
  have nolist : ∀ {k : Nat} {Q : Prop}, (Array.replicate ops.size false).getD k false = true → Q := fun {k Q} h => by rw [hfalse k] at h; cases h
  obtain ⟨E', G', w', A', Sf, hs, hall, m, sg, sl⟩ := tc.loop ok hrun rfl rfl hid hHN (E0 := E) (w0 := w) fi.fn its dl rr cs ops.size t (Array.replicate ops.size false) E ⟨H.t, Nat.add H.nx (countAlloc C ops.toList)⟩ w A (by simp) (by simp [hcnt])
    (fun i o _ h => nolist h)
    { hr := hr.drop (fun i o h _ => h) hHN, keep := fun _ _ => ⟨rfl, rfl, fun _ => rfl⟩, os := rfl, tape := rfl, output := rfl, size := Nat.le_refl _, block := fun _ _ _ => rfl, named := fun b h _ => h, nx := Nat.le_refl _,
      ex := fun j id ob h h2 => nolist h2.1, exi := fun j k id id' ob ob' h h' h2 => nolist h2.1, no := fun j id ob h _ => (hr.fresh id (hid j id ob h).1).1 }
    (.inr ⟨fun k _ => hfalse k, by rw [tc.z]⟩)
    ⟨ht.1, fun d a h => by
      rcases h with ⟨j, st, h1, h2, _⟩ | ⟨_, h2⟩
      · exact nolist h2
      · exact ht.2 d a h2⟩
  have hallL : ∀ j, j < tr.length → Sf j = true := fun j hj => hall j (by omega)
  have hG : G' = sf.G := by
    rw [← hf]
    rcases sg with ⟨j, h1, h2, h3, h4⟩ | ⟨h1, h2⟩
    · rcases tc.walk' (m := j + 1) (k := tr.length) h1.lt (Nat.le_refl _) with h | ⟨q, k1, k2, k3, _⟩
      · rw [h3, h]
      · have := h4 q k3 (by omega); rw [hallL q k2] at this; cases this
    · rcases tc.walk' (m := 0) (k := tr.length) (Nat.zero_le _) (Nat.le_refl _) with h | ⟨q, k1, k2, k3, _⟩
      · rw [h2, h]
      · have := h1 q k3; rw [hallL q k2] at this; cases this
  subst hG
  have hal : ∀ a, a ∈ sf.ads → IsAl tr a.ix a.id a.ob ∧ XX tr ops Sf a.ix := by
    intro a ha
    rw [← hf] at ha
    obtain ⟨h1, h2, h3⟩ := tc.ads rfl tr.length (Nat.le_refl _) a ha
    exact ⟨h2, hallL _ h1, fun k hk _ => h3 k hk hk.lt⟩
  have hpair : sf.ads.Pairwise (fun a b => a.id ≠ b.id) := by rw [← hf]; exact (tc.pair rfl tr.length (Nat.le_refl _)).2
  obtain ⟨k1, k2, k3⟩ := reveal true 0 sf.ads sf.G hpair m.hr (fun a ha _ => by
      obtain ⟨b, o, _, h4⟩ := m.ex a.ix a.id a.ob (hal a ha).1 (hal a ha).2
      exact ⟨b, o, h4⟩) (fun a c ha hc _ _ hne => m.exi a.ix c.ix a.id c.id a.ob c.ob (hal a ha).1 (hal c hc).1 (hal a ha).2 (hal c hc).2 hne)
  refine ⟨E', w', A', hs, ⟨sl.1, fun d a hd => sl.2 d a ?_⟩, ⟨m.keep, k1, m.os, m.tape, m.output, m.size, m.block, fun b hb hlt => ?_, ?_⟩⟩
  · rw [← hf] at hd
    exact (tc.T tr.length (Nat.le_refl _) d a hd).congr fun j st hj _ => ⟨fun h => hallL j h, fun _ => (List.getElem?_eq_some_iff.1 hj).1⟩
  · rcases k3 b hb with h | ⟨a, ha, _, hx⟩
    · exact m.named b h hlt
    · obtain ⟨b', o, h4, h5, _⟩ := m.ex a.ix a.id a.ob (hal a ha).1 (hal a ha).2
      rw [hx] at h5; cases h5; omega
  · rw [k2]; exact Nat.le_trans hHN m.nx
theorem exec_ok {C : Cx} (ok : CxOk C) (n : Nat) : RunOk C.P (exec C n) := exec_sound ok (draw_ok ok) n
end Go.Ev
