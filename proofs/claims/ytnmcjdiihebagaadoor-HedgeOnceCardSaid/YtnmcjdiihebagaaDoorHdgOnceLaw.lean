/-
  The law HedgeOnce in plain words: what a call that is told something may do, and that the law finds no fault with it.
-/
import Derived.Test.YtnmcjdiihebagaaDoorHdgRuns
namespace Go.Proofs.YtnmcjdiihebagaaDoor.Hdg
/-- what a call is -/
structure HS where
  now : Int
  started : Int
  nx : Bool
  due : Int
  run : List Int
  ans : Int
  done : Bool
  code : Int
/-- what a call may do that is told something -/
inductive Told (T D : Int) (s : HS) (m : Int) : List Ev → HS → Prop
  | quiet : Told T D s m [] { s with now := m }
  | ticks (j : Nat) (h : Started T D m s.started s.due s.nx j) :
      Told T D s m (newEvs s.started m j) { s with now := m, started := s.started + (j : Int), nx := nxAt T s.started s.nx j, due := dueAt D m s.due j, run := s.run ++ newTries s.started j }
  | more (k : Nat) (nx : Bool) (due : Int) (j : Nat) (hd : s.done = false) (hn : nx = true → s.nx = true) (h : Started T D m s.started due nx j) (he : ¬ (strike s.run k ++ newTries s.started j = [] ∧ nxAt T s.started nx j = false)) :
      Told T D s m (newEvs s.started m j) { s with now := m, started := s.started + (j : Int), nx := nxAt T s.started nx j, due := dueAt D m due j, run := strike s.run k ++ newTries s.started j }
  | ends (try_ cd due : Int) (run : List Int) (hd : s.done = false) (h : (run = s.run ∧ try_ = -1) ∨ ∃ k, k < s.run.length ∧ run = strike s.run k ∧ s.run.getD k 0 = try_) :
      Told T D s m (endsEvs run m try_ cd) { s with now := m, nx := false, due := due, run := run.filter (· == -1), done := true, code := cd }
  | answered (try_ : Int) (hd : s.done = false) (h : try_ ∈ s.run) :
      Told T D s m (cancelEvs s.run try_ m) { s with now := m, nx := false, run := s.run.filter (· == try_), ans := try_ }
/-- what the law keeps -/
structure LS where
  st : Int
  ov : List Bool
  en : Bool
  at_ : Int
def LS.step (s : LS) (x : Ev) : LS :=
  if x.kind = 1 then { s with st := s.st + 1, at_ := x.at_ } else if x.kind = 2 then { s with ov := s.ov.set x.try_.toNat true, at_ := x.at_ } else { s with en := true, at_ := x.at_ }
def LS.run (s : LS) (E : List Ev) : LS := E.foldl LS.step s
def OkEv (T : Int) (s : LS) (x : Ev) : Prop :=
  s.en = false ∧ s.at_ ≤ x.at_ ∧ ((x.kind = 1 ∧ x.try_ = s.st ∧ s.st < T) ∨ (x.kind = 2 ∧ 0 ≤ x.try_ ∧ x.try_ < s.st ∧ s.ov.getD x.try_.toNat false = false) ∨ (x.kind = 3 ∧ -1 ≤ x.try_ ∧ x.try_ < s.st ∧ (0 ≤ x.try_ → s.ov.getD x.try_.toNat false = false)))
def OkEvs (T : Int) : LS → List Ev → Prop
  | _, [] => True
  | s, x :: E => OkEv T s x ∧ OkEvs T (s.step x) E
theorem LS.run_one (s : LS) (x : Ev) : s.run [x] = s.step x := rfl
theorem LS.run_append (s : LS) (E F : List Ev) : s.run (E ++ F) = (s.run E).run F := by simp [LS.run]
theorem OkEvs.append {T : Int} : ∀ {E F : List Ev} {s : LS}, OkEvs T s E → OkEvs T (s.run E) F → OkEvs T s (E ++ F)
  | [], _, _, _, h => h
  | _ :: _, _, _, h, k => ⟨h.1, OkEvs.append h.2 k⟩
theorem OkEvs.at_ {T : Int} : ∀ {E : List Ev} {s : LS} (k : Nat) (x : Ev), OkEvs T s E → E[k]? = some x → OkEv T (s.run (E.take k)) x ∧ s.run (E.take (k + 1)) = (s.run (E.take k)).step x
  | [], _, k, x, _, h => by simp at h
  | y :: E, s, 0, x, h, e => by
    have : y = x := by simpa using e
    subst this
    exact ⟨h.1, rfl⟩
  | y :: E, s, k + 1, x, h, e => by
    have := OkEvs.at_ k x h.2 (by simpa using e)
    exact this
/-- the law's numbers are within their bounds -/
structure LB (T : Int) (s : LS) : Prop where
  st : 0 ≤ s.st ∧ s.st ≤ T
  ov : s.ov.length = 8
theorem LB.step {T : Int} {s : LS} {x : Ev} (h : LB T s) (k : OkEv T s x) : LB T (s.step x) := by
  obtain ⟨_, _, k⟩ := k
  have h1 := h.st
  unfold LS.step
  rcases k with ⟨e, _, k⟩ | ⟨e, _⟩ | ⟨e, _⟩
  · rw [if_pos e]; exact ⟨by simp only; omega, h.ov⟩
  · rw [if_neg (by omega), if_pos e]; exact ⟨h1, by simpa using h.ov⟩
  · rw [if_neg (by omega), if_neg (by omega)]; exact ⟨h1, h.ov⟩
theorem OkEvs.lb {T : Int} : ∀ {E : List Ev} {s : LS} (k : Nat), OkEvs T s E → LB T s → LB T (s.run (E.take k))
  | [], _, _, _, b => by simpa [LS.run] using b
  | _ :: _, _, 0, _, b => by simpa [LS.run] using b
  | _ :: _, _, k + 1, h, b => OkEvs.lb k h.2 (b.step h.1)
/-- a call, and what the law knows of it -/
structure OI (T : Int) (s : HS) (l : LS) : Prop where
  st : l.st = s.started
  lb : LB T l
  nxs : s.nx = true → s.started < T
  inc : s.run.Pairwise (· < ·)
  low : ∀ x ∈ s.run, 0 ≤ x ∧ x < s.started ∧ l.ov.getD x.toNat false = false
  hi : ∀ i : Nat, s.started ≤ (i : Int) → l.ov.getD i false = false
  en : l.en = s.done
  at_ : l.at_ ≤ s.now
  dn : s.done = true → s.run = [] ∧ s.nx = false
  al : s.done = false → s.run ≠ [] ∨ s.nx = true
  rl : (s.run.length : Int) ≤ s.started
  nw : 0 ≤ s.now
theorem strike_sub (run : List Int) (k : Nat) : (strike run k).Sublist run := by
  unfold strike
  have h : (run.take k ++ run.drop (k + 1)).Sublist (run.take k ++ run.drop k) := by
    apply List.Sublist.append (List.Sublist.refl _)
    have : run.drop (k + 1) = (run.drop k).drop 1 := by rw [List.drop_drop]
    rw [this]
    exact List.drop_sublist _ _
  rwa [List.take_append_drop] at h
theorem strike_not {run : List Int} (h : run.Pairwise (· < ·)) {k : Nat} (hk : k < run.length) : ¬ run.getD k 0 ∈ strike run k := by
  have e : run.getD k 0 = run[k] := by simp [List.getD, List.getElem?_eq_getElem hk]
  rw [e]
  have hs : run = run.take k ++ run[k] :: run.drop (k + 1) := by rw [← List.drop_eq_getElem_cons hk, List.take_append_drop]
  have hp := h
  rw [hs] at hp
  rw [List.pairwise_append] at hp
  obtain ⟨_, h2, h3⟩ := hp
  rw [List.pairwise_cons] at h2
  intro hm
  unfold strike at hm
  rcases List.mem_append.1 hm with h4 | h4
  · have := h3 _ h4 run[k] List.mem_cons_self; omega
  · have := h2.1 _ h4; omega
theorem newTries_mem {st x : Int} {j : Nat} (h : x ∈ newTries st j) : st ≤ x ∧ x < st + (j : Int) := by
  unfold newTries at h
  rw [List.mem_map] at h
  obtain ⟨i, hi, rfl⟩ := h
  rw [List.mem_range] at hi
  omega
theorem newTries_inc (st : Int) (j : Nat) : (newTries st j).Pairwise (· < ·) := by
  unfold newTries
  rw [List.pairwise_map]
  exact List.Pairwise.imp (fun h => by omega) List.pairwise_lt_range
/-- tries that start -/
theorem new_ok {T m : Int} {l : LS} (h0 : 0 ≤ l.st) : ∀ j : Nat, (0 < j → l.en = false ∧ l.st + (j : Int) ≤ T) → l.at_ ≤ m →
    OkEvs T l (newEvs l.st m j) ∧ (l.run (newEvs l.st m j)).st = l.st + (j : Int) ∧ (l.run (newEvs l.st m j)).ov = l.ov ∧ (l.run (newEvs l.st m j)).en = l.en ∧ (l.run (newEvs l.st m j)).at_ ≤ m
  | 0, _, ha => ⟨trivial, by simp [newEvs, LS.run], rfl, rfl, ha⟩
  | j + 1, h, ha => by
    obtain ⟨he, hl⟩ := h (by omega)
    obtain ⟨i1, i2, i3, i4, i5⟩ := new_ok (m := m) (T := T) h0 j (fun _ => ⟨he, by omega⟩) ha
    rw [newEvs_succ, LS.run_append, LS.run_one]
    refine ⟨OkEvs.append i1 ⟨⟨by rw [i4]; exact he, i5, Or.inl ⟨rfl, by rw [i2], by rw [i2]; omega⟩⟩, trivial⟩, ?_, ?_, ?_, ?_⟩
    · simp [LS.step, i2]; omega
    · simp [LS.step, i3]
    · simp [LS.step, i4]
    · simp [LS.step]
/-- tries that are cancelled -/
theorem cancel_ok {T m : Int} : ∀ (L : List Int) (l : LS), L.Pairwise (· < ·) → (∀ x ∈ L, 0 ≤ x ∧ x < l.st ∧ l.ov.getD x.toNat false = false) → l.en = false → l.at_ ≤ m → l.ov.length = 8 → l.st ≤ 8 →
    OkEvs T l (L.map fun t => ⟨2, t, 0, m⟩) ∧ (l.run (L.map fun t => ⟨2, t, 0, m⟩)).st = l.st ∧ (l.run (L.map fun t => ⟨2, t, 0, m⟩)).en = false ∧ (l.run (L.map fun t => ⟨2, t, 0, m⟩)).at_ ≤ m ∧
      (l.run (L.map fun t => ⟨2, t, 0, m⟩)).ov.length = 8 ∧ ∀ i : Nat, ¬ (i : Int) ∈ L → (l.run (L.map fun t => ⟨2, t, 0, m⟩)).ov.getD i false = l.ov.getD i false
  | [], l, _, _, he, ha, ho, _ => ⟨trivial, rfl, he, ha, ho, fun _ _ => rfl⟩
  | t :: L, l, hp, hl, he, ha, ho, h8 => by
    rw [List.pairwise_cons] at hp
    obtain ⟨t0, t1, t2⟩ := hl t (by simp)
    have hst : l.step ⟨2, t, 0, m⟩ = { l with ov := l.ov.set t.toNat true, at_ := m } := by simp [LS.step]
    have hov : ∀ i : Nat, i ≠ t.toNat → (l.ov.set t.toNat true).getD i false = l.ov.getD i false := fun i hi => by
      simp [List.getD, Ne.symm hi]
    have ih := cancel_ok (T := T) (m := m) L (l.step ⟨2, t, 0, m⟩) hp.2 (fun x hx => by
      obtain ⟨x0, x1, x2⟩ := hl x (by simp [hx])
      have := hp.1 x hx
      rw [hst]
      exact ⟨x0, x1, (hov _ (by omega)).trans x2⟩) (by rw [hst]; exact he) (by rw [hst]; exact Int.le_refl _) (by rw [hst]; simpa using ho) (by rw [hst]; exact h8)
    obtain ⟨i1, i2, i3, i4, i5, i6⟩ := ih
    refine ⟨⟨⟨he, ha, Or.inr (Or.inl ⟨rfl, t0, t1, t2⟩)⟩, i1⟩, ?_, i3, i4, i5, fun i hi => ?_⟩
    · show (LS.run (l.step ⟨2, t, 0, m⟩) (L.map fun t => ⟨2, t, 0, m⟩)).st = _
      rw [i2, hst]
    · show (LS.run (l.step ⟨2, t, 0, m⟩) (L.map fun t => ⟨2, t, 0, m⟩)).ov.getD i false = _
      rw [i6 i (fun h => hi (by simp [h])), hst]
      exact hov i (fun e => hi (by subst e; simp; left; omega))
theorem cancelEvs_eq (run : List Int) (but now : Int) : cancelEvs run but now = (run.filter (fun x => !(x == but))).map (fun t => (⟨2, t, 0, now⟩ : Ev)) := rfl
theorem none_of_low {run : List Int} (h : ∀ x ∈ run, 0 ≤ x) : run.filter (· == -1) = [] := by
  rw [List.filter_eq_nil_iff]
  intro x hx e
  have h1 := h x hx
  have : x = -1 := by simpa using e
  omega
theorem starts_oi {T D m : Int} {s : HS} {l : LS} {run : List Int} {nx : Bool} {due : Int} {j : Nat} (I : OI T s l) (hm : s.now ≤ m) (hr : run.Sublist s.run) (hn : nx = true → s.nx = true) (h : Started T D m s.started due nx j) (he : s.done = false → ¬ (run ++ newTries s.started j = [] ∧ nxAt T s.started nx j = false)) :
    OkEvs T l (newEvs s.started m j) ∧ OI T { s with now := m, started := s.started + (j : Int), nx := nxAt T s.started nx j, due := dueAt D m due j, run := run ++ newTries s.started j } (l.run (newEvs s.started m j)) ∧ j ≤ (T - s.started).toNat := by
  have hst := I.st
  have hen := I.en
  have hls := I.lb.st
  have hd : 0 < j → s.done = false := fun h0 => by
    have h1 := hn (h.going.first h0).1
    cases hd : s.done with
    | false => rfl
    | true => rw [(I.dn hd).2] at h1; cases h1
  have N := new_ok (T := T) (m := m) (l := l) hls.1 j (fun h0 => ⟨by rw [hen]; exact hd h0, by rw [hst]; exact h.going.lim h0⟩) (by have := I.at_; omega)
  rw [hst] at N
  obtain ⟨n1, n2, n3, n4, n5⟩ := N
  have hsub : ∀ x ∈ run, x ∈ s.run := fun x hx => hr.subset hx
  have hlim : s.started + (j : Int) ≤ T := by
    rcases Nat.eq_zero_or_pos j with h0 | h0
    · subst h0; have := I.lb.st; rw [hst] at this; simp; omega
    · exact h.going.lim h0
  refine ⟨n1, ⟨n2, ⟨by rw [n2]; have := I.lb.st; rw [hst] at this; omega, by rw [n3]; exact I.lb.ov⟩, ?_, ?_, ?_, ?_, by rw [n4]; exact I.en, n5, ?_, ?_, ?_, ?_⟩, by omega⟩
  · show nxAt T s.started nx j = true → s.started + (j : Int) < T
    unfold nxAt
    split
    · intro h1
      have := I.nxs (hn h1)
      omega
    · exact fun h1 => of_decide_eq_true h1
  · show (run ++ newTries s.started j).Pairwise (· < ·)
    rw [List.pairwise_append]
    refine ⟨I.inc.sublist hr, newTries_inc _ _, fun a ha b hb => ?_⟩
    have := (I.low a (hsub a ha)).2.1
    have := (newTries_mem hb).1
    omega
  · intro x hx
    show 0 ≤ x ∧ x < s.started + (j : Int) ∧ (l.run _).ov.getD x.toNat false = false
    rw [n3]
    rcases List.mem_append.1 hx with h1 | h1
    · obtain ⟨a, b, c⟩ := I.low x (hsub x h1)
      exact ⟨a, by omega, c⟩
    · have h2 := newTries_mem h1
      have h3 := I.lb.st
      rw [hst] at h3
      exact ⟨by omega, by omega, I.hi _ (by omega)⟩
  · intro i hi
    rw [n3]
    have : s.started + (j : Int) ≤ (i : Int) := hi
    exact I.hi i (by omega)
  · intro h1
    have h1 : s.done = true := h1
    have hj : j = 0 := by
      rcases Nat.eq_zero_or_pos j with h0 | h0
      · exact h0
      · rw [hd h0] at h1; cases h1
    subst hj
    obtain ⟨d1, d2⟩ := I.dn h1
    have hr0 : run = [] := List.eq_nil_of_length_eq_zero (by have := hr.length_le; rw [d1] at this; simpa using this)
    refine ⟨by simp [hr0, newTries], ?_⟩
    show nxAt T s.started nx 0 = false
    unfold nxAt
    rw [if_pos rfl]
    cases nx with
    | false => rfl
    | true => rw [hn rfl] at d2; cases d2
  · intro h1
    have h2 := he h1
    by_cases h3 : run ++ newTries s.started j = []
    · right
      show nxAt T s.started nx j = true
      cases h4 : nxAt T s.started nx j with
      | true => rfl
      | false => exact absurd ⟨h3, h4⟩ h2
    · exact Or.inl h3
  · show ((run ++ newTries s.started j).length : Int) ≤ s.started + (j : Int)
    rw [List.length_append, newTries_length]
    have := hr.length_le
    have := I.rl
    omega
  · show 0 ≤ m
    have := I.nw; omega
theorem Told.ok {T D m : Int} {s s' : HS} {E : List Ev} {l : LS} (h : Told T D s m E s') (I : OI T s l) (hm : s.now ≤ m) (hT : T ≤ 5) : OkEvs T l E ∧ OI T s' (l.run E) ∧ E.length ≤ 20 := by
  have hst := I.st
  have hen := I.en
  have hls := I.lb.st
  have hrl := I.rl
  cases h with
  | quiet => exact ⟨trivial, ⟨I.st, I.lb, I.nxs, I.inc, I.low, I.hi, I.en, by show l.at_ ≤ m; have := I.at_; omega, I.dn, I.al, I.rl, by show 0 ≤ m; have := I.nw; omega⟩, by simp⟩
  | ticks j h =>
    obtain ⟨h1, h2, h3⟩ := starts_oi I hm (List.Sublist.refl s.run) (fun h => h) h (fun hd => by
      rintro ⟨a, b⟩
      rw [List.append_eq_nil_iff] at a
      have hj : j = 0 := by have := congrArg List.length a.2; rw [newTries_length] at this; simpa using this
      subst hj
      unfold nxAt at b
      rw [if_pos rfl] at b
      rcases I.al hd with h5 | h5
      · exact h5 a.1
      · rw [b] at h5; cases h5)
    exact ⟨h1, h2, by rw [newEvs_length]; omega⟩
  | more k nx due j hd hn h he =>
    obtain ⟨h1, h2, h3⟩ := starts_oi I hm (strike_sub s.run k) hn h (fun _ => he)
    exact ⟨h1, h2, by rw [newEvs_length]; omega⟩
  | ends try_ cd due run hd hk =>
    have hsub : run.Sublist s.run := by
      rcases hk with ⟨e, _⟩ | ⟨k, _, e, _⟩
      · rw [e]; exact List.Sublist.refl _
      · rw [e]; exact strike_sub _ _
    have hlow : ∀ x ∈ run, 0 ≤ x ∧ x < s.started ∧ l.ov.getD x.toNat false = false := fun x hx => I.low x (hsub.subset hx)
    have hf : run.filter (fun x => !(x == -1)) = run := by
      rw [List.filter_eq_self]
      intro x hx
      have := (hlow x hx).1
      simp; omega
    have C := cancel_ok (T := T) (m := m) run l (I.inc.sublist hsub) (fun x hx => by rw [hst]; exact hlow x hx) (by rw [hen, hd]) (by have := I.at_; omega) I.lb.ov (by omega)
    obtain ⟨c1, c2, c3, c4, c5, c6⟩ := C
    have he : endsEvs run m try_ cd = run.map (fun t => (⟨2, t, 0, m⟩ : Ev)) ++ [⟨3, try_, cd, m⟩] := by unfold endsEvs; rw [cancelEvs_eq, hf]
    have htry : -1 ≤ try_ ∧ try_ < l.st ∧ (0 ≤ try_ → (l.run (run.map (fun t => (⟨2, t, 0, m⟩ : Ev)))).ov.getD try_.toNat false = false) := by
      rcases hk with ⟨_, e⟩ | ⟨k, hk, e, e2⟩
      · subst e; exact ⟨by omega, by omega, fun h => by omega⟩
      · have hmem : try_ ∈ s.run := by
          rw [← e2]; simp [List.getD, List.getElem?_eq_getElem hk]
        obtain ⟨a, b, c⟩ := I.low _ hmem
        refine ⟨by omega, by omega, fun _ => ?_⟩
        rw [c6 try_.toNat]
        · exact c
        · rw [show ((try_.toNat : Nat) : Int) = try_ by omega, e, ← e2]
          exact strike_not I.inc hk
    rw [he, LS.run_append]
    have hstep : LS.run (l.run (run.map fun t => (⟨2, t, 0, m⟩ : Ev))) [⟨3, try_, cd, m⟩] = { l.run (run.map fun t => (⟨2, t, 0, m⟩ : Ev)) with en := true, at_ := m } := by
      rw [LS.run_one]
      simp [LS.step]
    rw [hstep]
    refine ⟨OkEvs.append c1 ⟨⟨c3, c4, Or.inr (Or.inr ⟨rfl, htry.1, by rw [c2]; exact htry.2.1, htry.2.2⟩)⟩, trivial⟩, ⟨by show (l.run _).st = _; rw [c2, hst], ⟨by show 0 ≤ (l.run _).st ∧ (l.run _).st ≤ T; rw [c2]; exact hls, c5⟩, (fun h => by cases h), ?_, ?_, ?_, rfl, Int.le_refl _, ?_, (fun h => by cases h), ?_, ?_⟩, ?_⟩
    · show (run.filter (· == -1)).Pairwise _
      rw [none_of_low (fun x hx => (hlow x hx).1)]; exact List.Pairwise.nil
    · intro x hx
      have hx : x ∈ run.filter (· == -1) := hx
      rw [none_of_low (fun x hx => (hlow x hx).1)] at hx; cases hx
    · intro i hi
      have hi : s.started ≤ (i : Int) := hi
      show (l.run _).ov.getD i false = false
      rw [c6 i (fun hm => by have := (hlow _ hm).2.1; omega)]
      exact I.hi i hi
    · intro _
      exact ⟨none_of_low (fun x hx => (hlow x hx).1), rfl⟩
    · show ((run.filter (· == -1)).length : Int) ≤ s.started
      rw [none_of_low (fun x hx => (hlow x hx).1)]
      simp; omega
    · show 0 ≤ m
      have := I.nw; omega
    · rw [List.length_append, List.length_map]
      have := hsub.length_le
      simp; omega
  | answered try_ hd hmem =>
    have hsub : (s.run.filter (fun x => !(x == try_))).Sublist s.run := List.filter_sublist
    have C := cancel_ok (T := T) (m := m) (s.run.filter (fun x => !(x == try_))) l (I.inc.sublist hsub) (fun x hx => by rw [hst]; exact I.low x (hsub.subset hx)) (by rw [hen, hd]) (by have := I.at_; omega) I.lb.ov (by omega)
    obtain ⟨c1, c2, c3, c4, c5, c6⟩ := C
    rw [cancelEvs_eq]
    have hs2 : (s.run.filter (· == try_)).Sublist s.run := List.filter_sublist
    refine ⟨c1, ⟨by rw [c2, hst], ⟨by rw [c2]; exact hls, c5⟩, (fun h => by cases h), I.inc.sublist hs2, ?_, ?_, by rw [c3]; exact hd.symm, c4, (fun h => by rw [show s.done = true from h] at hd; cases hd), ?_, ?_, ?_⟩, ?_⟩
    · intro x hx
      have hx : x ∈ s.run.filter (· == try_) := hx
      obtain ⟨a, b, c⟩ := I.low x (hs2.subset hx)
      refine ⟨a, b, ?_⟩
      rw [c6 x.toNat]
      · exact c
      · rw [show ((x.toNat : Nat) : Int) = x by omega]
        rw [List.mem_filter] at hx ⊢
        rintro ⟨_, h5⟩
        rw [hx.2] at h5
        cases h5
    · intro i hi
      have hi : s.started ≤ (i : Int) := hi
      rw [c6 i (fun hm => by have := (I.low _ (hsub.subset hm)).2.1; omega)]
      exact I.hi i hi
    · intro _
      left
      intro e
      have : try_ ∈ s.run.filter (· == try_) := by rw [List.mem_filter]; exact ⟨hmem, by simp⟩
      have e : s.run.filter (· == try_) = [] := e
      rw [e] at this
      cases this
    · show ((s.run.filter (· == try_)).length : Int) ≤ s.started
      have := hs2.length_le
      omega
    · show 0 ≤ m
      have := I.nw; omega
    · rw [List.length_map]
      have := hsub.length_le
      omega
end Go.Proofs.YtnmcjdiihebagaaDoor.Hdg
