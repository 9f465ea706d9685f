import Derived.Test.YtbaaklcoafgcdaaGreatEvK
set_option linter.unusedVariables false
set_option linter.unusedSimpArgs false
namespace Go.Ev
/-! ### Equal abstract values are equal -/
theorem eqOA_eq {a b : Option (Nat × Nat)} (h : eqOA a b = true) : a = b := by
  cases a with
  | none => cases b with
    | none => rfl
    | some q => cases h
  | some p => cases b with
    | none => cases h
    | some q =>
      obtain ⟨p1, p2⟩ := p
      obtain ⟨q1, q2⟩ := q
      change cnd (Nat.beq p1 q1) (Nat.beq p2 q2) false = true at h
      cases hb : Nat.beq p1 q1 with
      | false => rw [hb] at h; cases h
      | true =>
        rw [hb] at h
        have h1 := beq_iff.1 hb
        have h2 := beq_iff.1 (show Nat.beq p2 q2 = true from h)
        rw [h1, h2]
theorem eqCap_eq {a b : Cap} (h : eqCap a b = true) : a = b := by
  cases a <;> cases b <;> first
    | (cases h; done)
    | (have h1 := beq_iff.1 (show Nat.beq _ _ = true from h); rw [h1])
theorem eqL_eq : ∀ {a b : List Nat}, eqL a b = true → a = b
  | [], [], h => rfl
  | [], y :: b, h => by cases h
  | x :: a, [], h => by cases h
  | x :: a, y :: b, h => by
    change cnd (Nat.beq x y) (eqL a b) false = true at h
    cases hb : Nat.beq x y with
    | false => rw [hb] at h; cases h
    | true => rw [hb] at h; rw [beq_iff.1 hb, eqL_eq h]
theorem eqF1_eq {a b : List AVal} (h : eqF1 a b = true) : a = b := by
  unfold eqF1 at h
  split at h
  · split at h
    · rfl
    · cases h
  · split at h
    · rw [eqOA_eq h]
    · cases h
  · cases h
theorem kIx_inj {a b : IntKind} (h : eqK a b = true) : a = b := by
  have := beq_iff.1 (show Nat.beq (kIx a) (kIx b) = true from h)
  cases a <;> cases b <;> first | rfl | (cases this; done)
theorem eqI_eq' {a b : Int} (h : eqI a b = true) : a = b := by
  cases a <;> cases b <;> first
    | (cases h; done)
    | (have h1 := beq_iff.1 (show Nat.beq _ _ = true from h); rw [h1])
theorem cnd_and {a b : Bool} (h : cnd a b false = true) : a = true ∧ b = true := by
  cases a
  · cases h
  · exact ⟨rfl, h⟩
theorem eqB_eq' {a b : Bool} (h : eqB a b = true) : a = b := by cases a <;> cases b <;> first | rfl | (cases h; done)
theorem eqV1_eq {x y : AVal} (h : eqV1 x y = true) : x = y := by
  cases x
  case bool a =>
    cases y
    case bool b => rw [eqB_eq' h]
    all_goals cases h
  case int k a =>
    cases y
    case int j b => obtain ⟨h1, h2⟩ := cnd_and h; rw [kIx_inj h1, eqI_eq' h2]
    all_goals cases h
  case str a =>
    cases y
    case str b => rw [eqL_eq h]
    all_goals cases h
  case ptr a =>
    cases y
    case ptr b => rw [eqOA_eq h]
    all_goals cases h
  case slice a l c =>
    cases y
    case slice b m d =>
      obtain ⟨h1, h2⟩ := cnd_and h
      obtain ⟨h2, h3⟩ := cnd_and h2
      rw [eqOA_eq h1, beq_iff.1 h2, eqCap_eq h3]
    all_goals cases h
  case map a =>
    cases a with
    | none =>
      cases y
      case map b => cases b <;> first | rfl | (cases h; done)
      all_goals cases h
    | some a =>
      cases y
      case map b =>
        cases b with
        | none => cases h
        | some b => rw [beq_iff.1 h]
      all_goals cases h
  case func f p c =>
    cases p with
    | cons _ _ => cases h
    | nil =>
      cases y
      case func g q d =>
        cases q with
        | cons _ _ => cases h
        | nil => obtain ⟨h1, h2⟩ := cnd_and h; rw [beq_iff.1 h1, eqF1_eq h2]
      all_goals cases h
  case yieldf a =>
    cases y
    case yieldf b => rw [beq_iff.1 h]
    all_goals cases h
  case nilFunc => cases y <;> first | rfl | (cases h; done)
  case nilIface => cases y <;> first | rfl | (cases h; done)
  all_goals cases h
theorem eqVs_eq : ∀ {a b : List AVal}, eqVs a b = true → a = b
  | [], [], h => rfl
  | [], y :: b, h => by cases h
  | x :: a, [], h => by cases h
  | x :: a, y :: b, h => by
    obtain ⟨h1, h2⟩ := cnd_and (show cnd (eqV1 x y) (eqVs a b) false = true from h)
    rw [eqV1_eq h1, eqVs_eq h2]
theorem eqV2_eq {x y : AVal} (h : eqV2 x y = true) : x = y := by
  unfold eqV2 at h
  split at h
  · split at h
    · rw [eqVs_eq h]
    · cases h
  · exact eqV1_eq h
theorem eqVs2_eq : ∀ {a b : List AVal}, eqVs2 a b = true → a = b
  | [], [], h => rfl
  | [], y :: b, h => by cases h
  | x :: a, [], h => by cases h
  | x :: a, y :: b, h => by
    obtain ⟨h1, h2⟩ := cnd_and (show cnd (eqV2 x y) (eqVs2 a b) false = true from h)
    rw [eqV2_eq h1, eqVs2_eq h2]
theorem eqV_eq {x y : AVal} (h : eqV x y = true) : x = y := by
  unfold eqV at h
  split at h
  · split at h
    · rw [eqVs2_eq h]
    · cases h
  · exact eqV2_eq h
theorem readsTo_eq {C : Cx} {T : Tm} {G : AHp} {o : Op} {v : AVal} (h : readsTo C T G o v = true) : opA C T G o = .read (some v) := by
  unfold readsTo at h
  split at h
  · rename_i u hu; rw [hu, eqV_eq h]
  · cases h
theorem qsOk_mem {C : Cx} {mk : Nat} {G : AHp} : ∀ {l : List QP}, qsOk C mk G l = true → ∀ q ∈ l, bit mk q.ix = true ∨ readsTo C q.T G q.o q.v = true
  | [], h, q, hq => by cases hq
  | x :: l, h, q, hq => by
    obtain ⟨h1, h2⟩ := cnd_and (show cnd (cnd (bit mk x.ix) true (readsTo C x.T G x.o x.v)) (qsOk C mk G l) false = true from h)
    rcases List.mem_cons.1 hq with rfl | hq
    · cases hb : bit mk q.ix with
      | true => exact .inl rfl
      | false => rw [hb] at h1; exact .inr h1
    · exact qsOk_mem h2 q hq
theorem oldOk_mem {C : Cx} {mk : Nat} {T : Tm} {o : Op} {v : AVal} : ∀ {l : List (Nat × AHp)}, oldOk C mk T o v l = true → ∀ q ∈ l, bit mk q.1 = true ∨ readsTo C T q.2 o v = true
  | [], h, q, hq => by cases hq
  | x :: l, h, q, hq => by
    obtain ⟨h1, h2⟩ := cnd_and (show cnd (cnd (bit mk x.1) true (readsTo C T x.2 o v)) (oldOk C mk T o v l) false = true from h)
    rcases List.mem_cons.1 hq with rfl | hq
    · cases hb : bit mk q.1 with
      | true => exact .inl rfl
      | false => rw [hb] at h1; exact .inr h1
    · exact oldOk_mem h2 q hq
/-! ### What does not read is the same over any memory -/
theorem opA_heap {C : Cx} {T : Tm} {G G' : AHp} {o : Op} (h : ∀ v, opA C T G o ≠ .read v) : opA C T G' o = opA C T G o := by
  cases o
  case load t a => exact absurd rfl (h _)
  case lookup t m k ok => exact absurd rfl (h _)
  case convert s d x =>
    change convX C T G' s d x = convX C T G s d x
    have h : ∀ v, convX C T G s d x ≠ .read v := h
    unfold convX at h ⊢
    cases hk : convKind C s d with
    | plain => rw [hk] at h; exact absurd rfl (h _)
    | bytes => rfl
    | same => rfl
  case call c =>
    change callX C T G' c = callX C T G c
    have h : ∀ v, callX C T G c ≠ .read v := h
    unfold callX at h ⊢
    cases hc : c.callee with
    | builtin b =>
      rw [hc] at h
      dsimp only at h ⊢
      cases b <;> first | rfl | exact absurd rfl (h _)
    | _ => rfl
  all_goals rfl
theorem isAlloc_of {C : Cx} {T : Tm} {G : AHp} {o : Op} {p : Option (AObj × (Nat → AVal))} (h : opA C T G o = .alloc p) : isAlloc C o = true := by
  cases o
  case convert s d x =>
    change convX C T G s d x = .alloc p at h
    unfold convX at h
    show (match convKind C s d with
      | .bytes => true
      | _ => false) = true
    cases hk : convKind C s d with
    | plain => rw [hk] at h; cases h
    | bytes => rfl
    | same => rw [hk] at h; cases h
  case call c =>
    change callX C T G c = .alloc p at h
    unfold callX at h
    cases hc : c.callee with
    | builtin b => rw [hc] at h; cases b <;> cases h
    | value f => rw [hc] at h; cases h
    | invoke a b => rw [hc] at h; cases h
  all_goals first | rfl | (cases h; done)
/-! ### Hidden blocks come to light -/
theorem HR.reveal1 {P : Program} {E : Env} {H : AHp} {w : World} (hr : HR P E H w) {id b : Nat} {ob : AObj} {o : Obj} (h1 : E.ν id = some b) (h2 : w.heap[b]? = some o) (h3 : OR P E id ob o) (h4 : ¬ Named E H b) :
    HR P E (H.set id ob) w ∧ ∀ c, Named E (H.set id ob) c → Named E H c ∨ c = b := by
  refine ⟨⟨fun i a hi hl => ?_, fun i j a c x k1 k2 k3 k4 k5 k6 => ?_, hr.fresh⟩, fun c ⟨i, a, hi, hl, hx⟩ => ?_⟩
  · rcases get_set hi with ⟨rfl, rfl⟩ | ⟨_, hg⟩
    · exact ⟨b, o, h1, h2, h3⟩
    · exact hr.obj i a hg hl
  · rcases get_set k1 with ⟨rfl, rfl⟩ | ⟨hni, hgi⟩ <;> rcases get_set k3 with ⟨rfl, rfl⟩ | ⟨hnj, hgj⟩
    · rfl
    · rw [h1] at k5; cases k5; exact absurd ⟨j, c, hgj, k4, k6⟩ h4
    · rw [h1] at k6; cases k6; exact absurd ⟨i, a, hgi, k2, k5⟩ h4
    · exact hr.inj i j a c x hgi k2 hgj k4 k5 k6
  · rcases get_set hi with ⟨rfl, rfl⟩ | ⟨hne, hg⟩
    · rw [h1] at hx; cases hx; exact .inr rfl
    · exact .inl ⟨i, a, hg, hl, hx⟩
noncomputable def sel (all : Bool) (m : Nat) (a : AD) : Bool := cnd all true (bit m a.ix)
theorem reveal {P : Program} {E : Env} {w : World} (all : Bool) (m : Nat) : ∀ (l : List AD) (G : AHp), l.Pairwise (fun a b => a.id ≠ b.id) → HR P E G w →
    (∀ a, a ∈ l → sel all m a = true → ∃ b o, E.ν a.id = some b ∧ w.heap[b]? = some o ∧ OR P E a.id a.ob o ∧ ¬ Named E G b) →
    (∀ a c, a ∈ l → c ∈ l → sel all m a = true → sel all m c = true → a.id ≠ c.id → E.ν a.id ≠ E.ν c.id) →
    HR P E (revealed all m l G) w ∧ (revealed all m l G).nx = G.nx ∧ ∀ b, Named E (revealed all m l G) b → Named E G b ∨ ∃ a, a ∈ l ∧ sel all m a = true ∧ E.ν a.id = some b
  | [], G, _, hr, _, _ => ⟨hr, rfl, fun b h => .inl h⟩
  | a :: l, G, hp, hr, h1, h2 => by
    have hd : revealed all m (a :: l) G = cnd (sel all m a) (revealed all m l (G.set a.id a.ob)) (revealed all m l G) := rfl
    obtain ⟨hp1, hp2⟩ := List.pairwise_cons.1 hp
    rw [hd]
    cases hs : sel all m a with
    | false =>
      obtain ⟨k1, k2, k3⟩ := reveal all m l G hp2 hr (fun c hc => h1 c (.tail _ hc)) (fun c d hc hd => h2 c d (.tail _ hc) (.tail _ hd))
      exact ⟨k1, k2, fun b hb => (k3 b hb).imp id fun ⟨c, hc, r⟩ => ⟨c, .tail _ hc, r⟩⟩
    | true =>
      obtain ⟨b, o, e1, e2, e3, e4⟩ := h1 a (.head _) hs
      obtain ⟨r1, r2⟩ := hr.reveal1 e1 e2 e3 e4
      obtain ⟨k1, k2, k3⟩ := reveal all m l (G.set a.id a.ob) hp2 r1 (fun c hc hsc => by
        obtain ⟨b', o', f1, f2, f3, f4⟩ := h1 c (.tail _ hc) hsc
        refine ⟨b', o', f1, f2, f3, fun hn => ?_⟩
        rcases r2 b' hn with h | rfl
        · exact f4 h
        · exact h2 a c (.head _) (.tail _ hc) hs hsc (hp1 c hc) (e1.trans f1.symm)) (fun c d hc hd => h2 c d (.tail _ hc) (.tail _ hd))
      refine ⟨k1, k2, fun c hc => ?_⟩
      rcases k3 c hc with h | ⟨d, hd, r⟩
      · rcases r2 c h with h | rfl
        · exact .inl h
        · exact .inr ⟨a, .head _, hs, e1⟩
      · exact .inr ⟨d, .tail _ hd, r⟩
end Go.Ev
